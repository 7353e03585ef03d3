/- Merged texts, part of the proof KnownP: Qd, Qe, Qf, Qg, Qh, Qi, Qj, Qk. -/
import Derived.Test.YthlakbjnmbddaaaGreatDoorUKnownPA
import Derived.Test.YthlakbjnmbddaaaGreatDoorUKnownPB
import Derived.Test.YthlakbjnmbddaaaGreatDoorUKnownPC
import Derived.Test.YthlakbjnmbddaaaGreatDoorUKnownPD
/- vouchref10's Reader: interval: walked. -/
set_option linter.unusedVariables false
set_option linter.unusedSimpArgs false
namespace Go.Proofs.YthlakbjnmbddaaaGreatDoor
open Go.RowKit

theorem qtake_hit {w : World} {p : Nat} {S : Bs} {k : Nat} {op : Int} {r r' : Bs} (q : Bs) (hq : q.length ≤ 100) (ht : takeP q r = some r') (h : RQ w p S k op (.ok r)) :
    Calls Tryz.prog 86 #[.pointer (some ⟨p, 0, none⟩), .string (bs q)] w fun en w' => en = .returned (.bool true) ∧ (∃ k', RQ w' p S k' op (.ok r')) ∧ Off p w w' := by
  have := qtake_any w p S k op (.ok r) q hq h
  rwa [takeS_some ht] at this
theorem qtake_miss {w : World} {p : Nat} {S : Bs} {k : Nat} {op : Int} {r : Bs} (q : Bs) (hq : q.length ≤ 100) (ht : takeP q r = none) (h : RQ w p S k op (.ok r)) :
    Calls Tryz.prog 86 #[.pointer (some ⟨p, 0, none⟩), .string (bs q)] w fun en w' => en = .returned (.bool false) ∧ (∃ k', RQ w' p S k' op (.ok r)) ∧ Off p w w' := by
  have := qtake_any w p S k op (.ok r) q hq h
  rwa [takeS_none ht] at this
theorem qtake_err {w : World} {p : Nat} {S : Bs} {k : Nat} {op : Int} {e : Int} (q : Bs) (hq : q.length ≤ 100) (h : RQ w p S k op (.error e)) :
    Calls Tryz.prog 86 #[.pointer (some ⟨p, 0, none⟩), .string (bs q)] w fun en w' => en = .returned (.bool false) ∧ (∃ k', RQ w' p S k' op (.error e)) ∧ Off p w w' := qtake_any w p S k op (.error e) q hq h
theorem qfail_ok {w : World} {p : Nat} {S : Bs} {k : Nat} {op : Int} {r : Bs} (x : Int) (hx : x ≠ 0) (h : RQ w p S k op (.ok r)) :
    Calls Tryz.prog 66 #[.pointer (some ⟨p, 0, none⟩), .int .i64 x] w fun en w' => en = .returned (.tuple #[]) ∧ RQ w' p S k op (.error x) ∧ Off p w w' := qfail_any w p S k op (.ok r) x hx h
theorem qfail_err {w : World} {p : Nat} {S : Bs} {k : Nat} {op : Int} {e : Int} (x : Int) (hx : x ≠ 0) (h : RQ w p S k op (.error e)) :
    Calls Tryz.prog 66 #[.pointer (some ⟨p, 0, none⟩), .int .i64 x] w fun en w' => en = .returned (.tuple #[]) ∧ RQ w' p S k op (.error e) ∧ Off p w w' := qfail_any w p S k op (.error e) x hx h
theorem take_two {a b : UInt8} {r r1 : Bs} (h : takeP [a] r = some r1) : takeP [a, b] r = takeP [b] r1 := by
  unfold takeP at h
  split at h
  · rename_i hp
    simp only [Option.some.injEq] at h
    obtain ⟨t, ht⟩ := List.isPrefixOf_iff_prefix.1 hp
    subst ht
    subst h
    simp only [List.cons_append, List.nil_append, List.length_cons, List.length_nil, List.drop_succ_cons, List.drop_zero]
    rw [takeP_cons, if_pos rfl]
  · cases h
theorem take_two_none {a b : UInt8} {r : Bs} (h : takeP [a] r = none) : takeP [a, b] r = none := by
  cases r with
  | nil => exact takeP_nil _ (by simp)
  | cons c t =>
    rw [takeP_one] at h
    rw [takeP_cons]
    split at h
    · cases h
    · rename_i hc; rw [if_neg hc]
/-- What interval hands back. -/
def QInt (p : Nat) (S : Bs) (op : Int) (r : Bs) (w : World) (en : Ending) (w' : World) : Prop :=
  ∃ (m n : Int) (k' : Nat) (s' : Rs), en = .returned (.tuple #[.int .i64 m, .int .i64 n]) ∧ RQ w' p S k' op s' ∧ Off p w w' ∧ ((intervalP r = .error 105 ∧ s' = .error 105) ∨ ∃ r', intervalP r = .ok (m, n, r') ∧ s' = .ok r')
set_option maxRecDepth 100000 in
set_option maxHeartbeats 4000000 in
theorem qinterval_any (w : World) (p : Nat) (S : Bs) (k : Nat) (op : Int) (r : Bs) (h : RQ w p S k op (.ok r)) :
    Calls Tryz.prog 121 #[.pointer (some ⟨p, 0, none⟩)] w fun en w' => QInt p S op r w en w' := by
  have Hd := Lib.hid (qdigits_ok w p S k op r h)
  have De := Lib.hid (fun w k (h : RQ w p S k op (.error 105)) => qdigits_err w p S k op 105 h)
  clear h
  go_enter Tryz.func121, Tryz.ntmps121
  go_wp2_with fail
  refine Hd.out.mono ?_
  rintro en w1 ⟨m, k1, s1, rfl, h1, hO1, ⟨m', r1, hn, rfl, hm0, hm1, rfl⟩ | ⟨hn, rfl, r1, rfl, _⟩⟩
  · have Hn := Lib.hid hn
    have hmI : decide (m < 0) = false := by rw [decide_eq_false_iff_not]; omega
    clear hn Hd
    cases t1 : takeP [125] r1 with
    | some r2 =>
      have Hs := Lib.hid (show intervalP r = .ok (m, m, r2) by unfold intervalP; simp only [Hn.out, t1])
      have T1 := Lib.hid t1
      clear t1
      go_wp2_with fail
      refine (qtake_hit [125] (by simp) T1.out h1).mono ?_
      rintro en w2 ⟨rfl, ⟨k2, h2⟩, hO2⟩
      go_wp2_with fail
      go_ret2
      exact ⟨m, m, k2, _, rfl, h2, hO1.trans hO2, .inr ⟨_, Hs.out, rfl⟩⟩
    | none =>
      have T1 := Lib.hid t1
      cases t2 : takeP [44] r1 with
      | none =>
        have Hs := Lib.hid (show intervalP r = .error 105 by unfold intervalP; simp only [Hn.out, t1, take_two_none t2, t2])
        have T2 := Lib.hid t2
        clear t1 t2
        go_wp2_with fail
        refine (qtake_miss [125] (by simp) T1.out h1).mono ?_
        rintro en w2 ⟨rfl, ⟨k2, h2⟩, hO2⟩
        go_wp2_with fail
        refine (qtake_miss [44] (by simp) T2.out h2).mono ?_
        rintro en w3 ⟨rfl, ⟨k3, h3⟩, hO3⟩
        go_wp2_with fail
        refine (qfail_ok 105 (by omega) h3).mono ?_
        rintro en w4 ⟨rfl, h4, hO4⟩
        go_wp2_with fail
        refine (qtake_err [125] (by simp) h4).mono ?_
        rintro en w5 ⟨rfl, ⟨k5, h5⟩, hO5⟩
        go_wp2_with fail
        refine (De.out _ _ h5).mono ?_
        rintro en w6 ⟨m6, k6, s6, rfl, h6, hO6, rfl, rfl⟩
        have hlt : (-1 : Int) < m := by omega
        go_wp2_with fail
        refine (qfail_err 105 (by omega) h6).mono ?_
        rintro en w7 ⟨rfl, h7, hO7⟩
        go_wp2_with fail
        go_ret2
        exact ⟨m, -1, k6, _, rfl, h7, (((((hO1.trans hO2).trans hO3).trans hO4).trans hO5).trans hO6).trans hO7, .inl ⟨Hs.out, rfl⟩⟩
      | some r2 =>
        have T2 := Lib.hid t2
        cases t3 : takeP [125] r2 with
        | some r3 =>
          have Hs := Lib.hid (show intervalP r = .ok (m, -1, r3) by unfold intervalP; simp only [Hn.out, t1, take_two t2, t3])
          have T3 := Lib.hid t3
          clear t1 t2 t3
          go_wp2_with fail
          refine (qtake_miss [125] (by simp) T1.out h1).mono ?_
          rintro en w2 ⟨rfl, ⟨k2, h2⟩, hO2⟩
          go_wp2_with fail
          refine (qtake_hit [44] (by simp) T2.out h2).mono ?_
          rintro en w3 ⟨rfl, ⟨k3, h3⟩, hO3⟩
          go_wp2_with fail
          refine (qtake_hit [125] (by simp) T3.out h3).mono ?_
          rintro en w4 ⟨rfl, ⟨k4, h4⟩, hO4⟩
          go_wp2_with fail
          go_ret2
          exact ⟨m, -1, k4, _, rfl, h4, ((hO1.trans hO2).trans hO3).trans hO4, .inr ⟨_, Hs.out, rfl⟩⟩
        | none =>
          have T3 := Lib.hid t3
          have Hpre := Lib.hid (show intervalP r = (match numberP r2 with | .error e => .error e | .ok (n, r3) => if n < m then .error 105 else match takeP [125] r3 with | some r4 => .ok (m, n, r4) | none => .error 105) by unfold intervalP; simp only [Hn.out, t1, take_two t2, t3, t2]; rfl)
          clear t1 t2 t3
          go_wp2_with fail
          refine (qtake_miss [125] (by simp) T1.out h1).mono ?_
          rintro en w2 ⟨rfl, ⟨k2, h2⟩, hO2⟩
          go_wp2_with fail
          refine (qtake_hit [44] (by simp) T2.out h2).mono ?_
          rintro en w3 ⟨rfl, ⟨k3, h3⟩, hO3⟩
          go_wp2_with fail
          refine (qtake_miss [125] (by simp) T3.out h3).mono ?_
          rintro en w4 ⟨rfl, ⟨k4, h4⟩, hO4⟩
          have HO4 := Lib.hid (((hO1.trans hO2).trans hO3).trans hO4)
          clear hO1 hO2 hO3 hO4 h1 h2 h3 T1 T2 T3
          go_wp2_with fail
          refine (qdigits_ok w4 p S k4 op r2 h4).mono ?_
          rintro en w5 ⟨n, k5, s5, rfl, h5, hO5, ⟨n', r3, hn2, rfl, hn0, hn1, rfl⟩ | ⟨hn2, rfl, r3, rfl, _⟩⟩
          · by_cases hnm : n < m
            · have Hs := Lib.hid (show intervalP r = .error 105 by rw [Hpre.out, hn2]; simp only; rw [if_pos hnm])
              clear hn2 Hpre
              go_wp2_with fail
              refine (qfail_ok 105 (by omega) h5).mono ?_
              rintro en w6 ⟨rfl, h6, hO6⟩
              go_wp2_with fail
              go_ret2
              exact ⟨m, n, k5, _, rfl, h6, (HO4.out.trans hO5).trans hO6, .inl ⟨Hs.out, rfl⟩⟩
            · have hnmI : decide (n < m) = false := by rw [decide_eq_false_iff_not]; exact hnm
              cases t4 : takeP [125] r3 with
              | some r4 =>
                have Hs := Lib.hid (show intervalP r = .ok (m, n, r4) by rw [Hpre.out, hn2]; simp only; rw [if_neg hnm, t4])
                have T4 := Lib.hid t4
                clear hn2 Hpre hnm t4
                go_wp2_with fail
                refine (qtake_hit [125] (by simp) T4.out h5).mono ?_
                rintro en w6 ⟨rfl, ⟨k6, h6⟩, hO6⟩
                go_wp2_with fail
                go_ret2
                exact ⟨m, n, k6, _, rfl, h6, (HO4.out.trans hO5).trans hO6, .inr ⟨_, Hs.out, rfl⟩⟩
              | none =>
                have Hs := Lib.hid (show intervalP r = .error 105 by rw [Hpre.out, hn2]; simp only; rw [if_neg hnm, t4])
                have T4 := Lib.hid t4
                clear hn2 Hpre hnm t4
                go_wp2_with fail
                refine (qtake_miss [125] (by simp) T4.out h5).mono ?_
                rintro en w6 ⟨rfl, ⟨k6, h6⟩, hO6⟩
                go_wp2_with fail
                refine (qfail_ok 105 (by omega) h6).mono ?_
                rintro en w7 ⟨rfl, h7, hO7⟩
                go_wp2_with fail
                go_ret2
                exact ⟨m, n, k6, _, rfl, h7, ((HO4.out.trans hO5).trans hO6).trans hO7, .inl ⟨Hs.out, rfl⟩⟩
          · have Hs := Lib.hid (show intervalP r = .error 105 by rw [Hpre.out, hn2])
            have hlt : (-1 : Int) < m := by omega
            clear hn2 Hpre
            go_wp2_with fail
            refine (qfail_ok 105 (by omega) h5).mono ?_
            rintro en w6 ⟨rfl, h6, hO6⟩
            go_wp2_with fail
            go_ret2
            exact ⟨m, -1, k5, _, rfl, h6, (HO4.out.trans hO5).trans hO6, .inl ⟨Hs.out, rfl⟩⟩
  · have Hs := Lib.hid (show intervalP r = .error 105 by unfold intervalP; simp only [hn])
    clear hn Hd
    go_wp2_with fail
    refine (qfail_ok 105 (by omega) h1).mono ?_
    rintro en w2 ⟨rfl, h2, hO2⟩
    go_wp2_with fail
    refine (qtake_err [125] (by simp) h2).mono ?_
    rintro en w3 ⟨rfl, ⟨k3, h3⟩, hO3⟩
    go_wp2_with fail
    refine (qtake_err [44] (by simp) h3).mono ?_
    rintro en w4 ⟨rfl, ⟨k4, h4⟩, hO4⟩
    go_wp2_with fail
    refine (qfail_err 105 (by omega) h4).mono ?_
    rintro en w5 ⟨rfl, h5, hO5⟩
    go_wp2_with fail
    refine (qtake_err [125] (by simp) h5).mono ?_
    rintro en w6 ⟨rfl, ⟨k6, h6⟩, hO6⟩
    go_wp2_with fail
    refine (De.out _ _ h6).mono ?_
    rintro en w7 ⟨m7, k7, s7, rfl, h7, hO7, rfl, rfl⟩
    go_wp2_with fail
    refine (qtake_err [125] (by simp) h7).mono ?_
    rintro en w8 ⟨rfl, ⟨k8, h8⟩, hO8⟩
    go_wp2_with fail
    refine (qfail_err 105 (by omega) h8).mono ?_
    rintro en w9 ⟨rfl, h9, hO9⟩
    go_wp2_with fail
    go_ret2
    exact ⟨-1, -1, k8, _, rfl, h9, (((((((hO1.trans hO2).trans hO3).trans hO4).trans hO5).trans hO6).trans hO7).trans hO8).trans hO9, .inl ⟨Hs.out, rfl⟩⟩
end Go.Proofs.YthlakbjnmbddaaaGreatDoor

/- vouchref10: in, span, all: walked. -/
set_option linter.unusedVariables false
set_option linter.unusedSimpArgs false
namespace Go.Proofs.YthlakbjnmbddaaaGreatDoor
open Go.RowKit

theorem SetAt.box (w : World) (S : W4) : SetAt (w.alloc (.cells #[.int .u64 S.a, .int .u64 S.b, .int .u64 S.c, .int .u64 S.d] 28)) w.heap.size S := heap_alloc_new w _
theorem SetAt.later {w w' : World} {b : Nat} {s : W4} (h : SetAt w b s) (k : Below w.heap.size w w') : SetAt w' b s := h.keep (k.block b h.lt)
theorem SetAt.other {w : World} {b b' : Nat} {s : W4} (h : SetAt w b s) (hn : b ≠ b') (o : Nat) (v : Value) : SetAt (w.setCell ⟨b', o, none⟩ v) b s := h.keep (Below.heap_setCell _ _ _ _ hn)
set_option maxRecDepth 100000 in
set_option maxHeartbeats 2000000 in
theorem qin_any (w : World) (S : W4) (c : Nat) (hc : c < 256) :
    Calls Tryz.prog 149 #[S.V, .int .u8 (c : Int)] w fun en w' => en = .returned (S.add c).V ∧ Below w.heap.size w w' := by
  have hq : (c : Int).tdiv 64 = ((c / 64 : Nat) : Int) := by rw [Int.tdiv_eq_ediv_of_nonneg (by omega)]; omega
  have hr : (c : Int).tmod 64 = ((c % 64 : Nat) : Int) := by rw [Int.tmod_eq_emod_of_nonneg (by omega)]; omega
  have hw := wrap_pow (c % 64) (by omega)
  have hk4 : c % 64 < 64 := by omega
  have hadd : ∀ (W : World) (b : Nat), SetAt W b S → SetAt (W.setCell ⟨b, c / 64, none⟩ (.int .u64 (orI (S.word (c / 64)) (2 ^ (c % 64))))) b (S.add c) := fun W b h => by
    have := h.addW c hc
    unfold addW at this
    rwa [Nat.zero_add] at this
  rcases (show c / 64 = 0 ∨ c / 64 = 1 ∨ c / 64 = 2 ∨ c / 64 = 3 by omega) with e | e | e | e
  all_goals
    rw [e] at hq hadd
    have Hadd := Lib.hid hadd
    clear hadd e
    generalize S.add c = T at *
    generalize hk : c % 64 = k at *
    clear hk
    go_enter Tryz.func149, Tryz.ntmps149
    go_upto_region 1 with fail
    generalize hW : (w.alloc _).alloc _ = W0
    have hs0 : SetAt W0 w.heap.size S := by subst hW; exact (SetAt.box w S).later ((Below.refl _ _).alloc (Nat.le_refl _) _)
    have hr0 : SetAt W0 (w.heap.size + 1) w40 := by
      subst hW
      have := SetAt.new (w.alloc (.cells #[.int .u64 S.a, .int .u64 S.b, .int .u64 S.c, .int .u64 S.d] 28))
      simpa using this
    have hb0 : Below w.heap.size w W0 := by subst hW; exact ((Below.refl _ _).alloc (Nat.le_refl _) _).alloc (by simp) _
    clear hW
    obtain ⟨f0, f1, f2, f3⟩ := hs0.at4
    simp only [Nat.zero_add] at f1 f2 f3
    have z0 := hs0.froz 0; have z1 := hs0.froz 1; have z2 := hs0.froz 2; have z3 := hs0.froz 3
    have hz : w.heap.size < W0.heap.size := hs0.lt
    go_upto_region 2 with fail
    generalize hW1 : W0.setCell _ _ = W1
    have hs1 : SetAt W1 w.heap.size T := by subst hW1; exact Hadd.out W0 _ hs0
    have hr1 : SetAt W1 (w.heap.size + 1) w40 := by subst hW1; exact hr0.other (by omega) _ _
    have hb1 : Below w.heap.size w W1 := by subst hW1; exact hb0.setCell (p := ⟨w.heap.size, _, none⟩) (Nat.le_refl _) _
    clear hW1 hs0 hr0 hb0 f0 f1 f2 f3 z0 z1 z2 z3 hz
    obtain ⟨f0, f1, f2, f3⟩ := hs1.at4
    obtain ⟨g0, g1, g2, g3⟩ := hr1.at4
    simp only [Nat.zero_add] at f1 f2 f3 g1 g2 g3
    have y0 := hr1.froz 0; have y1 := hr1.froz 1; have y2 := hr1.froz 2; have y3 := hr1.froz 3
    have Hr1 := Lib.hid hr1; have Hb1 := Lib.hid hb1
    clear hs1 hr1 hb1
    go_wp2_with fail
    change bodyPost _ _ _ _ _ (setV W1 (w.heap.size + 1) T)
    obtain ⟨q0, q1, q2, q3⟩ := (Hr1.out.setV T).at4
    simp only [Nat.zero_add] at q1 q2 q3
    have hB := Hb1.out.setV (b := w.heap.size + 1) (by omega) T
    clear f0 f1 f2 f3 g0 g1 g2 g3 y0 y1 y2 y3
    generalize setV W1 (w.heap.size + 1) T = W at *
    exact bodyPost_ret (v := T.V) (by simp [results, Tryz.results149, go_sem, q0, q1, q2, q3]) rfl ⟨rfl, hB⟩
theorem SetAt.setOther {w : World} {b b' : Nat} {s : W4} (h : SetAt w b s) (hn : b ≠ b') (T : W4) : SetAt (Go.Proofs.YthlakbjnmbddaaaGreatDoor.setV w b' T) b s := h.keep (setV_other _ _ _ _ hn)
set_option maxRecDepth 100000 in
set_option maxHeartbeats 4000000 in
theorem qspan_any (w : World) (S : W4) (f t : Nat) (hf : f ≤ 256) (ht : t ≤ 255) :
    Calls Tryz.prog 147 #[S.V, .int .i64 (f : Int), .int .i64 (t : Int)] w fun en w' => en = .returned (S.span f (t + 1 - f)).V ∧ Below w.heap.size w w' := by
  go_enter Tryz.func147, Tryz.ntmps147
  go_upto_region 1 with fail
  generalize hW : (w.alloc _).alloc _ = W0
  have hs0 : SetAt W0 w.heap.size S := by subst hW; exact (SetAt.box w S).later ((Below.refl _ _).alloc (Nat.le_refl _) _)
  have hr0 : SetAt W0 (w.heap.size + 1) w40 := by
    subst hW
    have := SetAt.new (w.alloc (.cells #[.int .u64 S.a, .int .u64 S.b, .int .u64 S.c, .int .u64 S.d] 28))
    simpa using this
  have hb0 : Below w.heap.size w W0 := by subst hW; exact ((Below.refl _ _).alloc (Nat.le_refl _) _).alloc (by simp) _
  clear hW
  go_wp2_with fail
  go_loopg [7] (t + 1 - f) (fun n i wr => ∃ (j : Nat) (T : W4), i = .int .i64 j ∧ n = t + 1 - j ∧ f ≤ j ∧ (List.range' j (t + 1 - j)).foldl W4.add T = S.span f (t + 1 - f) ∧ SetAt wr w.heap.size T ∧ SetAt wr (w.heap.size + 1) w40 ∧ Below w.heap.size w wr)
  case atStart => exact ⟨f, S, rfl, rfl, Nat.le_refl _, rfl, hs0, hr0, hb0⟩
  case round =>
    obtain ⟨j, T, rfl, hn, hfj, hm, hS, hR, hB⟩ := hrel
    clear hs0 hr0 hb0
    obtain ⟨f0, f1, f2, f3⟩ := hS.at4
    simp only [Nat.zero_add] at f1 f2 f3
    have Hm := Lib.hid hm; have HS := Lib.hid hS; have HR := Lib.hid hR; have HB := Lib.hid hB; have Hn := Lib.hid hn
    clear hm hS hR hB hn
    by_cases hlt : j ≤ t
    · have hmod : IntKind.u8.wrap (j : Int) = (j : Int) := by simp [IntKind.wrap, IntKind.signed, IntKind.bits]; omega
      go_wp2_with fail
      refine (qin_any wr T j (by omega)).mono ?_
      rintro en w1 ⟨rfl, hb1⟩
      have hs1 := HS.out.later hb1
      have hr1 := HR.out.later hb1
      obtain ⟨g0, g1, g2, g3⟩ := hs1.at4
      simp only [Nat.zero_add] at g1 g2 g3
      have y0 := hs1.froz 0; have y1 := hs1.froz 1; have y2 := hs1.froz 2; have y3 := hs1.froz 3
      have Hs1 := Lib.hid hs1; have Hr1 := Lib.hid hr1; have HB1 := Lib.hid (HB.out.step hb1)
      have hstep : (List.range' (j + 1) (t + 1 - (j + 1))).foldl W4.add (T.add j) = S.span f (t + 1 - f) := by
        rw [← Hm.out, show t + 1 - j = (t + 1 - (j + 1)) + 1 by omega, List.range'_succ, List.foldl_cons]
      have Hstep := Lib.hid hstep
      clear hs1 hr1 hb1 hstep f0 f1 f2 f3 HS HR HB Hm
      go_wp2_with fail
      change Handed _ _ _ (setV w1 w.heap.size (T.add j))
      have hA := Hs1.out.setV (T.add j)
      have hR' := Hr1.out.setOther (b' := w.heap.size) (by omega) (T.add j)
      have hB' := HB1.out.setV (b := w.heap.size) (Nat.le_refl _) (T.add j)
      clear g0 g1 g2 g3 y0 y1 y2 y3
      generalize setV w1 w.heap.size (T.add j) = W1 at *
      go_roundg (t + 1 - (j + 1))
      case measure => have := Hn.out; omega
      case rel => exact ⟨j + 1, T.add j, by go_num, rfl, by omega, Hstep.out, hA, hR', hB'⟩
    · have hres : T = S.span f (t + 1 - f) := by rw [← Hm.out, show t + 1 - j = 0 by omega]; rfl
      have Hres := Lib.hid hres
      obtain ⟨g0, g1, g2, g3⟩ := HR.out.at4
      simp only [Nat.zero_add] at g1 g2 g3
      have y0 := HR.out.froz 0; have y1 := HR.out.froz 1; have y2 := HR.out.froz 2; have y3 := HR.out.froz 3
      clear hres Hm
      go_wp2_with fail
      change bodyPost _ _ _ _ _ (setV wr (w.heap.size + 1) T)
      obtain ⟨q0, q1, q2, q3⟩ := (HR.out.setV T).at4
      simp only [Nat.zero_add] at q1 q2 q3
      have hB := HB.out.setV (b := w.heap.size + 1) (by omega) T
      clear f0 f1 f2 f3 g0 g1 g2 g3 y0 y1 y2 y3
      generalize setV wr (w.heap.size + 1) T = W at *
      exact bodyPost_ret (v := T.V) (by simp [results, Tryz.results147, go_sem, q0, q1, q2, q3]) rfl ⟨by rw [Hres.out], hB⟩
set_option maxRecDepth 100000 in
set_option maxHeartbeats 2000000 in
theorem qall_any (w : World) :
    Calls Tryz.prog 136 #[] w fun en w' => en = .returned (w40.span 0 256).V ∧ Below w.heap.size w w' := by
  go_enter Tryz.func136, Tryz.ntmps136
  go_upto_region 1 with fail
  generalize hW : w.alloc _ = W0
  have hr0 : SetAt W0 w.heap.size w40 := by subst hW; exact SetAt.new w
  have hb0 : Below w.heap.size w W0 := by subst hW; exact (Below.refl _ _).alloc (Nat.le_refl _) _
  clear hW
  go_wp2_with fail
  refine (qspan_any W0 w40 0 255 (by omega) (by omega)).mono ?_
  rintro en w1 ⟨rfl, hb1⟩
  rw [show 255 + 1 - 0 = 256 from rfl]
  have hr1 := hr0.later hb1
  have hB1 := hb0.step hb1
  obtain ⟨g0, g1, g2, g3⟩ := hr1.at4
  simp only [Nat.zero_add] at g1 g2 g3
  have y0 := hr1.froz 0; have y1 := hr1.froz 1; have y2 := hr1.froz 2; have y3 := hr1.froz 3
  have Hr1 := Lib.hid hr1; have HB1 := Lib.hid hB1
  clear hr0 hb0 hb1 hr1 hB1
  generalize hT : w40.span 0 256 = T at *
  have HT := Lib.hid hT
  clear hT
  go_wp2_with fail
  change bodyPost _ _ _ _ _ (setV w1 w.heap.size T)
  obtain ⟨q0, q1, q2, q3⟩ := (Hr1.out.setV T).at4
  simp only [Nat.zero_add] at q1 q2 q3
  have hB := HB1.out.setV (b := w.heap.size) (Nat.le_refl _) T
  clear g0 g1 g2 g3 y0 y1 y2 y3
  generalize setV w1 w.heap.size T = W at *
  exact bodyPost_ret (v := T.V) (by simp [results, Tryz.results136, go_sem, q0, q1, q2, q3]) rfl ⟨by rw [HT.out], hB⟩
end Go.Proofs.YthlakbjnmbddaaaGreatDoor

/- vouchref10.class: walked. -/
set_option linter.unusedVariables false
set_option linter.unusedSimpArgs false
namespace Go.Proofs.YthlakbjnmbddaaaGreatDoor
open Go.RowKit

/-- A class's set; none: no class. -/
def clsQ (nm : Bs) : W4 × Bool := match classW nm with | some S => (S, true) | none => (w40, false)
/-- The four boxes of class, and what was there. -/
structure ClsB (w W : World) (nb ab db : Nat) : Prop where
  bl : Below w.heap.size w W
  rs : SetAt W w.heap.size w40
  nn : SetAt W nb w40
  al : SetAt W ab ((w40.span 65 26).span 97 26)
  di : SetAt W db (w40.span 48 10)
set_option maxRecDepth 100000 in
set_option maxHeartbeats 4000000 in
theorem class_alpha (w : World) : Calls Tryz.prog 166 #[.string (bs [97, 108, 112, 104, 97])] w fun en w' => en = .returned (.tuple #[(clsQ [97, 108, 112, 104, 97]).1.V, .bool (clsQ [97, 108, 112, 104, 97]).2]) ∧ Below w.heap.size w w' := by
  have Hc := Lib.hid (show clsQ [97, 108, 112, 104, 97] = (((w40.span 65 26).span 97 26), true) from rfl)
  go_enter Tryz.func166, Tryz.ntmps166
  go_upto_region 2 with fail
  generalize hW : (w.alloc _).alloc _ = W0
  have hr0 : SetAt W0 w.heap.size w40 := by subst hW; exact (SetAt.new w).later ((Below.refl _ _).alloc (Nat.le_refl _) _)
  have hn0 : SetAt W0 (w.heap.size + 1) w40 := by
    subst hW
    have := SetAt.new (w.alloc (.cells #[.int .u64 0, .int .u64 0, .int .u64 0, .int .u64 0] 28))
    simpa using this
  have hb0 : Below w.heap.size w W0 := by subst hW; exact ((Below.refl _ _).alloc (Nat.le_refl _) _).alloc (by simp) _
  clear hW
  obtain ⟨f0, f1, f2, f3⟩ := hn0.at4
  simp only [Nat.zero_add] at f1 f2 f3
  go_wp2_with fail
  refine (qspan_any W0 w40 65 90 (by omega) (by omega)).mono ?_
  rintro en w1 ⟨rfl, hb1⟩
  have hr1 := hr0.later hb1; have hn1 := hn0.later hb1; have hB1 := hb0.step hb1
  clear hr0 hn0 hb0 hb1 f0 f1 f2 f3
  go_wp2_with fail
  refine (qspan_any w1 (w40.span 65 26) 97 122 (by omega) (by omega)).mono ?_
  rintro en w2 ⟨rfl, hb2⟩
  have hr2 := hr1.later hb2; have hn2 := hn1.later hb2; have hB2 := hB1.step hb2
  clear hr1 hn1 hB1 hb2
  rw [show 122 + 1 - 97 = 26 from rfl]
  have hga : SetAt (w2.alloc (.cells #[.int .u64 ((w40.span 65 26).span 97 26).a, .int .u64 ((w40.span 65 26).span 97 26).b, .int .u64 ((w40.span 65 26).span 97 26).c, .int .u64 ((w40.span 65 26).span 97 26).d] 28)) w2.heap.size ((w40.span 65 26).span 97 26) := SetAt.box w2 _
  have Hga := Lib.hid hga
  clear hga
  generalize hA : ((w40.span 65 26).span 97 26) = TA at *
  have HA := Lib.hid hA
  clear hA
  go_upto_region 3 with fail
  generalize hW : w2.alloc _ = W3
  have hb3 : Below w2.heap.size w2 W3 := by subst hW; exact (Below.refl _ _).alloc (Nat.le_refl _) _
  have ha3 : SetAt W3 w2.heap.size TA := by subst hW; exact Hga.out
  clear hW Hga
  have hr3 := hr2.later hb3; have hn3 := hn2.later hb3; have hB3 := hB2.step hb3
  clear hr2 hn2 hB2 hb3
  obtain ⟨f0, f1, f2, f3⟩ := hn3.at4
  simp only [Nat.zero_add] at f1 f2 f3
  go_wp2_with fail
  refine (qspan_any W3 w40 48 57 (by omega) (by omega)).mono ?_
  rintro en w4 ⟨rfl, hb4⟩
  have hr4 := hr3.later hb4; have hn4 := hn3.later hb4; have hB4 := hB3.step hb4; have ha4 := ha3.later hb4
  clear hr3 hn3 hB3 hb4 ha3 f0 f1 f2 f3
  rw [show 57 + 1 - 48 = 10 from rfl]
  have hgd : SetAt (w4.alloc (.cells #[.int .u64 (w40.span 48 10).a, .int .u64 (w40.span 48 10).b, .int .u64 (w40.span 48 10).c, .int .u64 (w40.span 48 10).d] 28)) w4.heap.size (w40.span 48 10) := SetAt.box w4 _
  have Hgd := Lib.hid hgd
  clear hgd
  generalize hD : (w40.span 48 10) = TD at *
  have HD := Lib.hid hD
  clear hD
  go_upto_region 4 with fail
  generalize hW : w4.alloc _ = W5
  have hb5 : Below w4.heap.size w4 W5 := by subst hW; exact (Below.refl _ _).alloc (Nat.le_refl _) _
  have hd5 : SetAt W5 w4.heap.size TD := by subst hW; exact Hgd.out
  clear hW Hgd
  have hr5 := hr4.later hb5; have hn5 := hn4.later hb5; have hB5 := hB4.step hb5; have ha5 := ha4.later hb5
  clear hr4 hn4 hB4 hb5 ha4
  obtain ⟨n0, n1, n2, n3⟩ := hn5.at4
  obtain ⟨a0, a1, a2, a3⟩ := ha5.at4
  obtain ⟨d0, d1, d2, d3⟩ := hd5.at4
  simp only [Nat.zero_add] at n1 n2 n3 a1 a2 a3 d1 d2 d3
  obtain ⟨r0, r1, r2, r3⟩ := hr5.at4
  simp only [Nat.zero_add] at r1 r2 r3
  have y0 := hr5.froz 0; have y1 := hr5.froz 1; have y2 := hr5.froz 2; have y3 := hr5.froz 3
  have HR := Lib.hid hr5; have HB := Lib.hid hB5
  clear hr5 hB5
  go_wp2_with fail
  change bodyPost _ _ _ _ _ (setV W5 w.heap.size TA)
  obtain ⟨q0, q1, q2, q3⟩ := (HR.out.setV TA).at4
  simp only [Nat.zero_add] at q1 q2 q3
  have hB := HB.out.setV (b := w.heap.size) (Nat.le_refl _) TA
  clear r0 r1 r2 r3 y0 y1 y2 y3
  clear n0 n1 n2 n3 a0 a1 a2 a3 d0 d1 d2 d3
  generalize setV W5 w.heap.size TA = WZ at *
  exact bodyPost_ret (v := .tuple #[TA.V, .bool true]) (by simp [results, Tryz.results166, go_sem, q0, q1, q2, q3]) rfl ⟨by rw [Hc.out], hB⟩
set_option maxRecDepth 100000 in
set_option maxHeartbeats 4000000 in
theorem class_upper (w : World) : Calls Tryz.prog 166 #[.string (bs [117, 112, 112, 101, 114])] w fun en w' => en = .returned (.tuple #[(clsQ [117, 112, 112, 101, 114]).1.V, .bool (clsQ [117, 112, 112, 101, 114]).2]) ∧ Below w.heap.size w w' := by
  have Hc := Lib.hid (show clsQ [117, 112, 112, 101, 114] = ((w40.span 65 26), true) from rfl)
  go_enter Tryz.func166, Tryz.ntmps166
  go_upto_region 2 with fail
  generalize hW : (w.alloc _).alloc _ = W0
  have hr0 : SetAt W0 w.heap.size w40 := by subst hW; exact (SetAt.new w).later ((Below.refl _ _).alloc (Nat.le_refl _) _)
  have hn0 : SetAt W0 (w.heap.size + 1) w40 := by
    subst hW
    have := SetAt.new (w.alloc (.cells #[.int .u64 0, .int .u64 0, .int .u64 0, .int .u64 0] 28))
    simpa using this
  have hb0 : Below w.heap.size w W0 := by subst hW; exact ((Below.refl _ _).alloc (Nat.le_refl _) _).alloc (by simp) _
  clear hW
  obtain ⟨f0, f1, f2, f3⟩ := hn0.at4
  simp only [Nat.zero_add] at f1 f2 f3
  go_wp2_with fail
  refine (qspan_any W0 w40 65 90 (by omega) (by omega)).mono ?_
  rintro en w1 ⟨rfl, hb1⟩
  have hr1 := hr0.later hb1; have hn1 := hn0.later hb1; have hB1 := hb0.step hb1
  clear hr0 hn0 hb0 hb1 f0 f1 f2 f3
  go_wp2_with fail
  refine (qspan_any w1 (w40.span 65 26) 97 122 (by omega) (by omega)).mono ?_
  rintro en w2 ⟨rfl, hb2⟩
  have hr2 := hr1.later hb2; have hn2 := hn1.later hb2; have hB2 := hB1.step hb2
  clear hr1 hn1 hB1 hb2
  rw [show 122 + 1 - 97 = 26 from rfl]
  have hga : SetAt (w2.alloc (.cells #[.int .u64 ((w40.span 65 26).span 97 26).a, .int .u64 ((w40.span 65 26).span 97 26).b, .int .u64 ((w40.span 65 26).span 97 26).c, .int .u64 ((w40.span 65 26).span 97 26).d] 28)) w2.heap.size ((w40.span 65 26).span 97 26) := SetAt.box w2 _
  have Hga := Lib.hid hga
  clear hga
  generalize hA : ((w40.span 65 26).span 97 26) = TA at *
  have HA := Lib.hid hA
  clear hA
  go_upto_region 3 with fail
  generalize hW : w2.alloc _ = W3
  have hb3 : Below w2.heap.size w2 W3 := by subst hW; exact (Below.refl _ _).alloc (Nat.le_refl _) _
  have ha3 : SetAt W3 w2.heap.size TA := by subst hW; exact Hga.out
  clear hW Hga
  have hr3 := hr2.later hb3; have hn3 := hn2.later hb3; have hB3 := hB2.step hb3
  clear hr2 hn2 hB2 hb3
  obtain ⟨f0, f1, f2, f3⟩ := hn3.at4
  simp only [Nat.zero_add] at f1 f2 f3
  go_wp2_with fail
  refine (qspan_any W3 w40 48 57 (by omega) (by omega)).mono ?_
  rintro en w4 ⟨rfl, hb4⟩
  have hr4 := hr3.later hb4; have hn4 := hn3.later hb4; have hB4 := hB3.step hb4; have ha4 := ha3.later hb4
  clear hr3 hn3 hB3 hb4 ha3 f0 f1 f2 f3
  rw [show 57 + 1 - 48 = 10 from rfl]
  have hgd : SetAt (w4.alloc (.cells #[.int .u64 (w40.span 48 10).a, .int .u64 (w40.span 48 10).b, .int .u64 (w40.span 48 10).c, .int .u64 (w40.span 48 10).d] 28)) w4.heap.size (w40.span 48 10) := SetAt.box w4 _
  have Hgd := Lib.hid hgd
  clear hgd
  generalize hD : (w40.span 48 10) = TD at *
  have HD := Lib.hid hD
  clear hD
  go_upto_region 4 with fail
  generalize hW : w4.alloc _ = W5
  have hb5 : Below w4.heap.size w4 W5 := by subst hW; exact (Below.refl _ _).alloc (Nat.le_refl _) _
  have hd5 : SetAt W5 w4.heap.size TD := by subst hW; exact Hgd.out
  clear hW Hgd
  have hr5 := hr4.later hb5; have hn5 := hn4.later hb5; have hB5 := hB4.step hb5; have ha5 := ha4.later hb5
  clear hr4 hn4 hB4 hb5 ha4
  obtain ⟨n0, n1, n2, n3⟩ := hn5.at4
  obtain ⟨a0, a1, a2, a3⟩ := ha5.at4
  obtain ⟨d0, d1, d2, d3⟩ := hd5.at4
  simp only [Nat.zero_add] at n1 n2 n3 a1 a2 a3 d1 d2 d3
  go_wp2_with fail
  refine (qspan_any W5 w40 65 90 (by omega) (by omega)).mono ?_
  rintro en w6 ⟨rfl, hb6⟩
  have hr6 := hr5.later hb6; have hB6 := hB5.step hb6
  clear hr5 hB5 hb6 n0 n1 n2 n3 a0 a1 a2 a3 d0 d1 d2 d3 hn5 ha5 hd5
  rw [show 90 + 1 - 65 = 26 from rfl]
  generalize hX6 : (w40.span 65 26) = T6 at *
  have HX6 := Lib.hid hX6
  clear hX6
  obtain ⟨r0, r1, r2, r3⟩ := hr6.at4
  simp only [Nat.zero_add] at r1 r2 r3
  have y0 := hr6.froz 0; have y1 := hr6.froz 1; have y2 := hr6.froz 2; have y3 := hr6.froz 3
  have HR := Lib.hid hr6; have HB := Lib.hid hB6
  clear hr6 hB6
  go_wp2_with fail
  change bodyPost _ _ _ _ _ (setV w6 w.heap.size T6)
  obtain ⟨q0, q1, q2, q3⟩ := (HR.out.setV T6).at4
  simp only [Nat.zero_add] at q1 q2 q3
  have hB := HB.out.setV (b := w.heap.size) (Nat.le_refl _) T6
  clear r0 r1 r2 r3 y0 y1 y2 y3
  generalize setV w6 w.heap.size T6 = WZ at *
  exact bodyPost_ret (v := .tuple #[T6.V, .bool true]) (by simp [results, Tryz.results166, go_sem, q0, q1, q2, q3]) rfl ⟨by rw [Hc.out], hB⟩
set_option maxRecDepth 100000 in
set_option maxHeartbeats 4000000 in
theorem class_lower (w : World) : Calls Tryz.prog 166 #[.string (bs [108, 111, 119, 101, 114])] w fun en w' => en = .returned (.tuple #[(clsQ [108, 111, 119, 101, 114]).1.V, .bool (clsQ [108, 111, 119, 101, 114]).2]) ∧ Below w.heap.size w w' := by
  have Hc := Lib.hid (show clsQ [108, 111, 119, 101, 114] = ((w40.span 97 26), true) from rfl)
  go_enter Tryz.func166, Tryz.ntmps166
  go_upto_region 2 with fail
  generalize hW : (w.alloc _).alloc _ = W0
  have hr0 : SetAt W0 w.heap.size w40 := by subst hW; exact (SetAt.new w).later ((Below.refl _ _).alloc (Nat.le_refl _) _)
  have hn0 : SetAt W0 (w.heap.size + 1) w40 := by
    subst hW
    have := SetAt.new (w.alloc (.cells #[.int .u64 0, .int .u64 0, .int .u64 0, .int .u64 0] 28))
    simpa using this
  have hb0 : Below w.heap.size w W0 := by subst hW; exact ((Below.refl _ _).alloc (Nat.le_refl _) _).alloc (by simp) _
  clear hW
  obtain ⟨f0, f1, f2, f3⟩ := hn0.at4
  simp only [Nat.zero_add] at f1 f2 f3
  go_wp2_with fail
  refine (qspan_any W0 w40 65 90 (by omega) (by omega)).mono ?_
  rintro en w1 ⟨rfl, hb1⟩
  have hr1 := hr0.later hb1; have hn1 := hn0.later hb1; have hB1 := hb0.step hb1
  clear hr0 hn0 hb0 hb1 f0 f1 f2 f3
  go_wp2_with fail
  refine (qspan_any w1 (w40.span 65 26) 97 122 (by omega) (by omega)).mono ?_
  rintro en w2 ⟨rfl, hb2⟩
  have hr2 := hr1.later hb2; have hn2 := hn1.later hb2; have hB2 := hB1.step hb2
  clear hr1 hn1 hB1 hb2
  rw [show 122 + 1 - 97 = 26 from rfl]
  have hga : SetAt (w2.alloc (.cells #[.int .u64 ((w40.span 65 26).span 97 26).a, .int .u64 ((w40.span 65 26).span 97 26).b, .int .u64 ((w40.span 65 26).span 97 26).c, .int .u64 ((w40.span 65 26).span 97 26).d] 28)) w2.heap.size ((w40.span 65 26).span 97 26) := SetAt.box w2 _
  have Hga := Lib.hid hga
  clear hga
  generalize hA : ((w40.span 65 26).span 97 26) = TA at *
  have HA := Lib.hid hA
  clear hA
  go_upto_region 3 with fail
  generalize hW : w2.alloc _ = W3
  have hb3 : Below w2.heap.size w2 W3 := by subst hW; exact (Below.refl _ _).alloc (Nat.le_refl _) _
  have ha3 : SetAt W3 w2.heap.size TA := by subst hW; exact Hga.out
  clear hW Hga
  have hr3 := hr2.later hb3; have hn3 := hn2.later hb3; have hB3 := hB2.step hb3
  clear hr2 hn2 hB2 hb3
  obtain ⟨f0, f1, f2, f3⟩ := hn3.at4
  simp only [Nat.zero_add] at f1 f2 f3
  go_wp2_with fail
  refine (qspan_any W3 w40 48 57 (by omega) (by omega)).mono ?_
  rintro en w4 ⟨rfl, hb4⟩
  have hr4 := hr3.later hb4; have hn4 := hn3.later hb4; have hB4 := hB3.step hb4; have ha4 := ha3.later hb4
  clear hr3 hn3 hB3 hb4 ha3 f0 f1 f2 f3
  rw [show 57 + 1 - 48 = 10 from rfl]
  have hgd : SetAt (w4.alloc (.cells #[.int .u64 (w40.span 48 10).a, .int .u64 (w40.span 48 10).b, .int .u64 (w40.span 48 10).c, .int .u64 (w40.span 48 10).d] 28)) w4.heap.size (w40.span 48 10) := SetAt.box w4 _
  have Hgd := Lib.hid hgd
  clear hgd
  generalize hD : (w40.span 48 10) = TD at *
  have HD := Lib.hid hD
  clear hD
  go_upto_region 4 with fail
  generalize hW : w4.alloc _ = W5
  have hb5 : Below w4.heap.size w4 W5 := by subst hW; exact (Below.refl _ _).alloc (Nat.le_refl _) _
  have hd5 : SetAt W5 w4.heap.size TD := by subst hW; exact Hgd.out
  clear hW Hgd
  have hr5 := hr4.later hb5; have hn5 := hn4.later hb5; have hB5 := hB4.step hb5; have ha5 := ha4.later hb5
  clear hr4 hn4 hB4 hb5 ha4
  obtain ⟨n0, n1, n2, n3⟩ := hn5.at4
  obtain ⟨a0, a1, a2, a3⟩ := ha5.at4
  obtain ⟨d0, d1, d2, d3⟩ := hd5.at4
  simp only [Nat.zero_add] at n1 n2 n3 a1 a2 a3 d1 d2 d3
  go_wp2_with fail
  refine (qspan_any W5 w40 97 122 (by omega) (by omega)).mono ?_
  rintro en w6 ⟨rfl, hb6⟩
  have hr6 := hr5.later hb6; have hB6 := hB5.step hb6
  clear hr5 hB5 hb6 n0 n1 n2 n3 a0 a1 a2 a3 d0 d1 d2 d3 hn5 ha5 hd5
  rw [show 122 + 1 - 97 = 26 from rfl]
  generalize hX6 : (w40.span 97 26) = T6 at *
  have HX6 := Lib.hid hX6
  clear hX6
  obtain ⟨r0, r1, r2, r3⟩ := hr6.at4
  simp only [Nat.zero_add] at r1 r2 r3
  have y0 := hr6.froz 0; have y1 := hr6.froz 1; have y2 := hr6.froz 2; have y3 := hr6.froz 3
  have HR := Lib.hid hr6; have HB := Lib.hid hB6
  clear hr6 hB6
  go_wp2_with fail
  change bodyPost _ _ _ _ _ (setV w6 w.heap.size T6)
  obtain ⟨q0, q1, q2, q3⟩ := (HR.out.setV T6).at4
  simp only [Nat.zero_add] at q1 q2 q3
  have hB := HB.out.setV (b := w.heap.size) (Nat.le_refl _) T6
  clear r0 r1 r2 r3 y0 y1 y2 y3
  generalize setV w6 w.heap.size T6 = WZ at *
  exact bodyPost_ret (v := .tuple #[T6.V, .bool true]) (by simp [results, Tryz.results166, go_sem, q0, q1, q2, q3]) rfl ⟨by rw [Hc.out], hB⟩
set_option maxRecDepth 100000 in
set_option maxHeartbeats 4000000 in
theorem class_digit (w : World) : Calls Tryz.prog 166 #[.string (bs [100, 105, 103, 105, 116])] w fun en w' => en = .returned (.tuple #[(clsQ [100, 105, 103, 105, 116]).1.V, .bool (clsQ [100, 105, 103, 105, 116]).2]) ∧ Below w.heap.size w w' := by
  have Hc := Lib.hid (show clsQ [100, 105, 103, 105, 116] = ((w40.span 48 10), true) from rfl)
  go_enter Tryz.func166, Tryz.ntmps166
  go_upto_region 2 with fail
  generalize hW : (w.alloc _).alloc _ = W0
  have hr0 : SetAt W0 w.heap.size w40 := by subst hW; exact (SetAt.new w).later ((Below.refl _ _).alloc (Nat.le_refl _) _)
  have hn0 : SetAt W0 (w.heap.size + 1) w40 := by
    subst hW
    have := SetAt.new (w.alloc (.cells #[.int .u64 0, .int .u64 0, .int .u64 0, .int .u64 0] 28))
    simpa using this
  have hb0 : Below w.heap.size w W0 := by subst hW; exact ((Below.refl _ _).alloc (Nat.le_refl _) _).alloc (by simp) _
  clear hW
  obtain ⟨f0, f1, f2, f3⟩ := hn0.at4
  simp only [Nat.zero_add] at f1 f2 f3
  go_wp2_with fail
  refine (qspan_any W0 w40 65 90 (by omega) (by omega)).mono ?_
  rintro en w1 ⟨rfl, hb1⟩
  have hr1 := hr0.later hb1; have hn1 := hn0.later hb1; have hB1 := hb0.step hb1
  clear hr0 hn0 hb0 hb1 f0 f1 f2 f3
  go_wp2_with fail
  refine (qspan_any w1 (w40.span 65 26) 97 122 (by omega) (by omega)).mono ?_
  rintro en w2 ⟨rfl, hb2⟩
  have hr2 := hr1.later hb2; have hn2 := hn1.later hb2; have hB2 := hB1.step hb2
  clear hr1 hn1 hB1 hb2
  rw [show 122 + 1 - 97 = 26 from rfl]
  have hga : SetAt (w2.alloc (.cells #[.int .u64 ((w40.span 65 26).span 97 26).a, .int .u64 ((w40.span 65 26).span 97 26).b, .int .u64 ((w40.span 65 26).span 97 26).c, .int .u64 ((w40.span 65 26).span 97 26).d] 28)) w2.heap.size ((w40.span 65 26).span 97 26) := SetAt.box w2 _
  have Hga := Lib.hid hga
  clear hga
  generalize hA : ((w40.span 65 26).span 97 26) = TA at *
  have HA := Lib.hid hA
  clear hA
  go_upto_region 3 with fail
  generalize hW : w2.alloc _ = W3
  have hb3 : Below w2.heap.size w2 W3 := by subst hW; exact (Below.refl _ _).alloc (Nat.le_refl _) _
  have ha3 : SetAt W3 w2.heap.size TA := by subst hW; exact Hga.out
  clear hW Hga
  have hr3 := hr2.later hb3; have hn3 := hn2.later hb3; have hB3 := hB2.step hb3
  clear hr2 hn2 hB2 hb3
  obtain ⟨f0, f1, f2, f3⟩ := hn3.at4
  simp only [Nat.zero_add] at f1 f2 f3
  go_wp2_with fail
  refine (qspan_any W3 w40 48 57 (by omega) (by omega)).mono ?_
  rintro en w4 ⟨rfl, hb4⟩
  have hr4 := hr3.later hb4; have hn4 := hn3.later hb4; have hB4 := hB3.step hb4; have ha4 := ha3.later hb4
  clear hr3 hn3 hB3 hb4 ha3 f0 f1 f2 f3
  rw [show 57 + 1 - 48 = 10 from rfl]
  have hgd : SetAt (w4.alloc (.cells #[.int .u64 (w40.span 48 10).a, .int .u64 (w40.span 48 10).b, .int .u64 (w40.span 48 10).c, .int .u64 (w40.span 48 10).d] 28)) w4.heap.size (w40.span 48 10) := SetAt.box w4 _
  have Hgd := Lib.hid hgd
  clear hgd
  generalize hD : (w40.span 48 10) = TD at *
  have HD := Lib.hid hD
  clear hD
  go_upto_region 4 with fail
  generalize hW : w4.alloc _ = W5
  have hb5 : Below w4.heap.size w4 W5 := by subst hW; exact (Below.refl _ _).alloc (Nat.le_refl _) _
  have hd5 : SetAt W5 w4.heap.size TD := by subst hW; exact Hgd.out
  clear hW Hgd
  have hr5 := hr4.later hb5; have hn5 := hn4.later hb5; have hB5 := hB4.step hb5; have ha5 := ha4.later hb5
  clear hr4 hn4 hB4 hb5 ha4
  obtain ⟨n0, n1, n2, n3⟩ := hn5.at4
  obtain ⟨a0, a1, a2, a3⟩ := ha5.at4
  obtain ⟨d0, d1, d2, d3⟩ := hd5.at4
  simp only [Nat.zero_add] at n1 n2 n3 a1 a2 a3 d1 d2 d3
  obtain ⟨r0, r1, r2, r3⟩ := hr5.at4
  simp only [Nat.zero_add] at r1 r2 r3
  have y0 := hr5.froz 0; have y1 := hr5.froz 1; have y2 := hr5.froz 2; have y3 := hr5.froz 3
  have HR := Lib.hid hr5; have HB := Lib.hid hB5
  clear hr5 hB5
  go_wp2_with fail
  change bodyPost _ _ _ _ _ (setV W5 w.heap.size TD)
  obtain ⟨q0, q1, q2, q3⟩ := (HR.out.setV TD).at4
  simp only [Nat.zero_add] at q1 q2 q3
  have hB := HB.out.setV (b := w.heap.size) (Nat.le_refl _) TD
  clear r0 r1 r2 r3 y0 y1 y2 y3
  clear n0 n1 n2 n3 a0 a1 a2 a3 d0 d1 d2 d3
  generalize setV W5 w.heap.size TD = WZ at *
  exact bodyPost_ret (v := .tuple #[TD.V, .bool true]) (by simp [results, Tryz.results166, go_sem, q0, q1, q2, q3]) rfl ⟨by rw [Hc.out], hB⟩
set_option maxRecDepth 100000 in
set_option maxHeartbeats 4000000 in
theorem class_alnum (w : World) : Calls Tryz.prog 166 #[.string (bs [97, 108, 110, 117, 109])] w fun en w' => en = .returned (.tuple #[(clsQ [97, 108, 110, 117, 109]).1.V, .bool (clsQ [97, 108, 110, 117, 109]).2]) ∧ Below w.heap.size w w' := by
  have Hc := Lib.hid (show clsQ [97, 108, 110, 117, 109] = ((((w40.span 65 26).span 97 26).span 48 10), true) from rfl)
  go_enter Tryz.func166, Tryz.ntmps166
  go_upto_region 2 with fail
  generalize hW : (w.alloc _).alloc _ = W0
  have hr0 : SetAt W0 w.heap.size w40 := by subst hW; exact (SetAt.new w).later ((Below.refl _ _).alloc (Nat.le_refl _) _)
  have hn0 : SetAt W0 (w.heap.size + 1) w40 := by
    subst hW
    have := SetAt.new (w.alloc (.cells #[.int .u64 0, .int .u64 0, .int .u64 0, .int .u64 0] 28))
    simpa using this
  have hb0 : Below w.heap.size w W0 := by subst hW; exact ((Below.refl _ _).alloc (Nat.le_refl _) _).alloc (by simp) _
  clear hW
  obtain ⟨f0, f1, f2, f3⟩ := hn0.at4
  simp only [Nat.zero_add] at f1 f2 f3
  go_wp2_with fail
  refine (qspan_any W0 w40 65 90 (by omega) (by omega)).mono ?_
  rintro en w1 ⟨rfl, hb1⟩
  have hr1 := hr0.later hb1; have hn1 := hn0.later hb1; have hB1 := hb0.step hb1
  clear hr0 hn0 hb0 hb1 f0 f1 f2 f3
  go_wp2_with fail
  refine (qspan_any w1 (w40.span 65 26) 97 122 (by omega) (by omega)).mono ?_
  rintro en w2 ⟨rfl, hb2⟩
  have hr2 := hr1.later hb2; have hn2 := hn1.later hb2; have hB2 := hB1.step hb2
  clear hr1 hn1 hB1 hb2
  rw [show 122 + 1 - 97 = 26 from rfl]
  have hga : SetAt (w2.alloc (.cells #[.int .u64 ((w40.span 65 26).span 97 26).a, .int .u64 ((w40.span 65 26).span 97 26).b, .int .u64 ((w40.span 65 26).span 97 26).c, .int .u64 ((w40.span 65 26).span 97 26).d] 28)) w2.heap.size ((w40.span 65 26).span 97 26) := SetAt.box w2 _
  have Hga := Lib.hid hga
  clear hga
  generalize hA : ((w40.span 65 26).span 97 26) = TA at *
  have HA := Lib.hid hA
  clear hA
  go_upto_region 3 with fail
  generalize hW : w2.alloc _ = W3
  have hb3 : Below w2.heap.size w2 W3 := by subst hW; exact (Below.refl _ _).alloc (Nat.le_refl _) _
  have ha3 : SetAt W3 w2.heap.size TA := by subst hW; exact Hga.out
  clear hW Hga
  have hr3 := hr2.later hb3; have hn3 := hn2.later hb3; have hB3 := hB2.step hb3
  clear hr2 hn2 hB2 hb3
  obtain ⟨f0, f1, f2, f3⟩ := hn3.at4
  simp only [Nat.zero_add] at f1 f2 f3
  go_wp2_with fail
  refine (qspan_any W3 w40 48 57 (by omega) (by omega)).mono ?_
  rintro en w4 ⟨rfl, hb4⟩
  have hr4 := hr3.later hb4; have hn4 := hn3.later hb4; have hB4 := hB3.step hb4; have ha4 := ha3.later hb4
  clear hr3 hn3 hB3 hb4 ha3 f0 f1 f2 f3
  rw [show 57 + 1 - 48 = 10 from rfl]
  have hgd : SetAt (w4.alloc (.cells #[.int .u64 (w40.span 48 10).a, .int .u64 (w40.span 48 10).b, .int .u64 (w40.span 48 10).c, .int .u64 (w40.span 48 10).d] 28)) w4.heap.size (w40.span 48 10) := SetAt.box w4 _
  have Hgd := Lib.hid hgd
  clear hgd
  generalize hD : (w40.span 48 10) = TD at *
  have HD := Lib.hid hD
  clear hD
  go_upto_region 4 with fail
  generalize hW : w4.alloc _ = W5
  have hb5 : Below w4.heap.size w4 W5 := by subst hW; exact (Below.refl _ _).alloc (Nat.le_refl _) _
  have hd5 : SetAt W5 w4.heap.size TD := by subst hW; exact Hgd.out
  clear hW Hgd
  have hr5 := hr4.later hb5; have hn5 := hn4.later hb5; have hB5 := hB4.step hb5; have ha5 := ha4.later hb5
  clear hr4 hn4 hB4 hb5 ha4
  obtain ⟨n0, n1, n2, n3⟩ := hn5.at4
  obtain ⟨a0, a1, a2, a3⟩ := ha5.at4
  obtain ⟨d0, d1, d2, d3⟩ := hd5.at4
  simp only [Nat.zero_add] at n1 n2 n3 a1 a2 a3 d1 d2 d3
  go_wp2_with fail
  refine (qspan_any W5 TA 48 57 (by omega) (by omega)).mono ?_
  rintro en w6 ⟨rfl, hb6⟩
  have hr6 := hr5.later hb6; have hB6 := hB5.step hb6
  clear hr5 hB5 hb6 n0 n1 n2 n3 a0 a1 a2 a3 d0 d1 d2 d3 hn5 ha5 hd5
  rw [show 57 + 1 - 48 = 10 from rfl]
  generalize hX6 : (TA.span 48 10) = T6 at *
  have HX6 := Lib.hid hX6
  clear hX6
  obtain ⟨r0, r1, r2, r3⟩ := hr6.at4
  simp only [Nat.zero_add] at r1 r2 r3
  have y0 := hr6.froz 0; have y1 := hr6.froz 1; have y2 := hr6.froz 2; have y3 := hr6.froz 3
  have HR := Lib.hid hr6; have HB := Lib.hid hB6
  clear hr6 hB6
  go_wp2_with fail
  change bodyPost _ _ _ _ _ (setV w6 w.heap.size T6)
  obtain ⟨q0, q1, q2, q3⟩ := (HR.out.setV T6).at4
  simp only [Nat.zero_add] at q1 q2 q3
  have hB := HB.out.setV (b := w.heap.size) (Nat.le_refl _) T6
  clear r0 r1 r2 r3 y0 y1 y2 y3
  generalize setV w6 w.heap.size T6 = WZ at *
  exact bodyPost_ret (v := .tuple #[T6.V, .bool true]) (by simp [results, Tryz.results166, go_sem, q0, q1, q2, q3]) rfl ⟨by rw [Hc.out], hB⟩
set_option maxRecDepth 100000 in
set_option maxHeartbeats 4000000 in
theorem class_xdigit (w : World) : Calls Tryz.prog 166 #[.string (bs [120, 100, 105, 103, 105, 116])] w fun en w' => en = .returned (.tuple #[(clsQ [120, 100, 105, 103, 105, 116]).1.V, .bool (clsQ [120, 100, 105, 103, 105, 116]).2]) ∧ Below w.heap.size w w' := by
  have Hc := Lib.hid (show clsQ [120, 100, 105, 103, 105, 116] = ((((w40.span 48 10).span 65 6).span 97 6), true) from rfl)
  go_enter Tryz.func166, Tryz.ntmps166
  go_upto_region 2 with fail
  generalize hW : (w.alloc _).alloc _ = W0
  have hr0 : SetAt W0 w.heap.size w40 := by subst hW; exact (SetAt.new w).later ((Below.refl _ _).alloc (Nat.le_refl _) _)
  have hn0 : SetAt W0 (w.heap.size + 1) w40 := by
    subst hW
    have := SetAt.new (w.alloc (.cells #[.int .u64 0, .int .u64 0, .int .u64 0, .int .u64 0] 28))
    simpa using this
  have hb0 : Below w.heap.size w W0 := by subst hW; exact ((Below.refl _ _).alloc (Nat.le_refl _) _).alloc (by simp) _
  clear hW
  obtain ⟨f0, f1, f2, f3⟩ := hn0.at4
  simp only [Nat.zero_add] at f1 f2 f3
  go_wp2_with fail
  refine (qspan_any W0 w40 65 90 (by omega) (by omega)).mono ?_
  rintro en w1 ⟨rfl, hb1⟩
  have hr1 := hr0.later hb1; have hn1 := hn0.later hb1; have hB1 := hb0.step hb1
  clear hr0 hn0 hb0 hb1 f0 f1 f2 f3
  go_wp2_with fail
  refine (qspan_any w1 (w40.span 65 26) 97 122 (by omega) (by omega)).mono ?_
  rintro en w2 ⟨rfl, hb2⟩
  have hr2 := hr1.later hb2; have hn2 := hn1.later hb2; have hB2 := hB1.step hb2
  clear hr1 hn1 hB1 hb2
  rw [show 122 + 1 - 97 = 26 from rfl]
  have hga : SetAt (w2.alloc (.cells #[.int .u64 ((w40.span 65 26).span 97 26).a, .int .u64 ((w40.span 65 26).span 97 26).b, .int .u64 ((w40.span 65 26).span 97 26).c, .int .u64 ((w40.span 65 26).span 97 26).d] 28)) w2.heap.size ((w40.span 65 26).span 97 26) := SetAt.box w2 _
  have Hga := Lib.hid hga
  clear hga
  generalize hA : ((w40.span 65 26).span 97 26) = TA at *
  have HA := Lib.hid hA
  clear hA
  go_upto_region 3 with fail
  generalize hW : w2.alloc _ = W3
  have hb3 : Below w2.heap.size w2 W3 := by subst hW; exact (Below.refl _ _).alloc (Nat.le_refl _) _
  have ha3 : SetAt W3 w2.heap.size TA := by subst hW; exact Hga.out
  clear hW Hga
  have hr3 := hr2.later hb3; have hn3 := hn2.later hb3; have hB3 := hB2.step hb3
  clear hr2 hn2 hB2 hb3
  obtain ⟨f0, f1, f2, f3⟩ := hn3.at4
  simp only [Nat.zero_add] at f1 f2 f3
  go_wp2_with fail
  refine (qspan_any W3 w40 48 57 (by omega) (by omega)).mono ?_
  rintro en w4 ⟨rfl, hb4⟩
  have hr4 := hr3.later hb4; have hn4 := hn3.later hb4; have hB4 := hB3.step hb4; have ha4 := ha3.later hb4
  clear hr3 hn3 hB3 hb4 ha3 f0 f1 f2 f3
  rw [show 57 + 1 - 48 = 10 from rfl]
  have hgd : SetAt (w4.alloc (.cells #[.int .u64 (w40.span 48 10).a, .int .u64 (w40.span 48 10).b, .int .u64 (w40.span 48 10).c, .int .u64 (w40.span 48 10).d] 28)) w4.heap.size (w40.span 48 10) := SetAt.box w4 _
  have Hgd := Lib.hid hgd
  clear hgd
  generalize hD : (w40.span 48 10) = TD at *
  have HD := Lib.hid hD
  clear hD
  go_upto_region 4 with fail
  generalize hW : w4.alloc _ = W5
  have hb5 : Below w4.heap.size w4 W5 := by subst hW; exact (Below.refl _ _).alloc (Nat.le_refl _) _
  have hd5 : SetAt W5 w4.heap.size TD := by subst hW; exact Hgd.out
  clear hW Hgd
  have hr5 := hr4.later hb5; have hn5 := hn4.later hb5; have hB5 := hB4.step hb5; have ha5 := ha4.later hb5
  clear hr4 hn4 hB4 hb5 ha4
  obtain ⟨n0, n1, n2, n3⟩ := hn5.at4
  obtain ⟨a0, a1, a2, a3⟩ := ha5.at4
  obtain ⟨d0, d1, d2, d3⟩ := hd5.at4
  simp only [Nat.zero_add] at n1 n2 n3 a1 a2 a3 d1 d2 d3
  go_wp2_with fail
  refine (qspan_any W5 TD 65 70 (by omega) (by omega)).mono ?_
  rintro en w6 ⟨rfl, hb6⟩
  have hr6 := hr5.later hb6; have hB6 := hB5.step hb6
  clear hr5 hB5 hb6 n0 n1 n2 n3 a0 a1 a2 a3 d0 d1 d2 d3 hn5 ha5 hd5
  rw [show 70 + 1 - 65 = 6 from rfl]
  generalize hX6 : (TD.span 65 6) = T6 at *
  have HX6 := Lib.hid hX6
  clear hX6
  go_wp2_with fail
  refine (qspan_any w6 T6 97 102 (by omega) (by omega)).mono ?_
  rintro en w7 ⟨rfl, hb7⟩
  have hr7 := hr6.later hb7; have hB7 := hB6.step hb7
  clear hr6 hB6 hb7
  rw [show 102 + 1 - 97 = 6 from rfl]
  generalize hX7 : (T6.span 97 6) = T7 at *
  have HX7 := Lib.hid hX7
  clear hX7
  obtain ⟨r0, r1, r2, r3⟩ := hr7.at4
  simp only [Nat.zero_add] at r1 r2 r3
  have y0 := hr7.froz 0; have y1 := hr7.froz 1; have y2 := hr7.froz 2; have y3 := hr7.froz 3
  have HR := Lib.hid hr7; have HB := Lib.hid hB7
  clear hr7 hB7
  go_wp2_with fail
  change bodyPost _ _ _ _ _ (setV w7 w.heap.size T7)
  obtain ⟨q0, q1, q2, q3⟩ := (HR.out.setV T7).at4
  simp only [Nat.zero_add] at q1 q2 q3
  have hB := HB.out.setV (b := w.heap.size) (Nat.le_refl _) T7
  clear r0 r1 r2 r3 y0 y1 y2 y3
  generalize setV w7 w.heap.size T7 = WZ at *
  exact bodyPost_ret (v := .tuple #[T7.V, .bool true]) (by simp [results, Tryz.results166, go_sem, q0, q1, q2, q3]) rfl ⟨by rw [Hc.out], hB⟩
set_option maxRecDepth 100000 in
set_option maxHeartbeats 4000000 in
theorem class_space (w : World) : Calls Tryz.prog 166 #[.string (bs [115, 112, 97, 99, 101])] w fun en w' => en = .returned (.tuple #[(clsQ [115, 112, 97, 99, 101]).1.V, .bool (clsQ [115, 112, 97, 99, 101]).2]) ∧ Below w.heap.size w w' := by
  have Hc := Lib.hid (show clsQ [115, 112, 97, 99, 101] = (((w40.span 9 5).add 32), true) from rfl)
  go_enter Tryz.func166, Tryz.ntmps166
  go_upto_region 2 with fail
  generalize hW : (w.alloc _).alloc _ = W0
  have hr0 : SetAt W0 w.heap.size w40 := by subst hW; exact (SetAt.new w).later ((Below.refl _ _).alloc (Nat.le_refl _) _)
  have hn0 : SetAt W0 (w.heap.size + 1) w40 := by
    subst hW
    have := SetAt.new (w.alloc (.cells #[.int .u64 0, .int .u64 0, .int .u64 0, .int .u64 0] 28))
    simpa using this
  have hb0 : Below w.heap.size w W0 := by subst hW; exact ((Below.refl _ _).alloc (Nat.le_refl _) _).alloc (by simp) _
  clear hW
  obtain ⟨f0, f1, f2, f3⟩ := hn0.at4
  simp only [Nat.zero_add] at f1 f2 f3
  go_wp2_with fail
  refine (qspan_any W0 w40 65 90 (by omega) (by omega)).mono ?_
  rintro en w1 ⟨rfl, hb1⟩
  have hr1 := hr0.later hb1; have hn1 := hn0.later hb1; have hB1 := hb0.step hb1
  clear hr0 hn0 hb0 hb1 f0 f1 f2 f3
  go_wp2_with fail
  refine (qspan_any w1 (w40.span 65 26) 97 122 (by omega) (by omega)).mono ?_
  rintro en w2 ⟨rfl, hb2⟩
  have hr2 := hr1.later hb2; have hn2 := hn1.later hb2; have hB2 := hB1.step hb2
  clear hr1 hn1 hB1 hb2
  rw [show 122 + 1 - 97 = 26 from rfl]
  have hga : SetAt (w2.alloc (.cells #[.int .u64 ((w40.span 65 26).span 97 26).a, .int .u64 ((w40.span 65 26).span 97 26).b, .int .u64 ((w40.span 65 26).span 97 26).c, .int .u64 ((w40.span 65 26).span 97 26).d] 28)) w2.heap.size ((w40.span 65 26).span 97 26) := SetAt.box w2 _
  have Hga := Lib.hid hga
  clear hga
  generalize hA : ((w40.span 65 26).span 97 26) = TA at *
  have HA := Lib.hid hA
  clear hA
  go_upto_region 3 with fail
  generalize hW : w2.alloc _ = W3
  have hb3 : Below w2.heap.size w2 W3 := by subst hW; exact (Below.refl _ _).alloc (Nat.le_refl _) _
  have ha3 : SetAt W3 w2.heap.size TA := by subst hW; exact Hga.out
  clear hW Hga
  have hr3 := hr2.later hb3; have hn3 := hn2.later hb3; have hB3 := hB2.step hb3
  clear hr2 hn2 hB2 hb3
  obtain ⟨f0, f1, f2, f3⟩ := hn3.at4
  simp only [Nat.zero_add] at f1 f2 f3
  go_wp2_with fail
  refine (qspan_any W3 w40 48 57 (by omega) (by omega)).mono ?_
  rintro en w4 ⟨rfl, hb4⟩
  have hr4 := hr3.later hb4; have hn4 := hn3.later hb4; have hB4 := hB3.step hb4; have ha4 := ha3.later hb4
  clear hr3 hn3 hB3 hb4 ha3 f0 f1 f2 f3
  rw [show 57 + 1 - 48 = 10 from rfl]
  have hgd : SetAt (w4.alloc (.cells #[.int .u64 (w40.span 48 10).a, .int .u64 (w40.span 48 10).b, .int .u64 (w40.span 48 10).c, .int .u64 (w40.span 48 10).d] 28)) w4.heap.size (w40.span 48 10) := SetAt.box w4 _
  have Hgd := Lib.hid hgd
  clear hgd
  generalize hD : (w40.span 48 10) = TD at *
  have HD := Lib.hid hD
  clear hD
  go_upto_region 4 with fail
  generalize hW : w4.alloc _ = W5
  have hb5 : Below w4.heap.size w4 W5 := by subst hW; exact (Below.refl _ _).alloc (Nat.le_refl _) _
  have hd5 : SetAt W5 w4.heap.size TD := by subst hW; exact Hgd.out
  clear hW Hgd
  have hr5 := hr4.later hb5; have hn5 := hn4.later hb5; have hB5 := hB4.step hb5; have ha5 := ha4.later hb5
  clear hr4 hn4 hB4 hb5 ha4
  obtain ⟨n0, n1, n2, n3⟩ := hn5.at4
  obtain ⟨a0, a1, a2, a3⟩ := ha5.at4
  obtain ⟨d0, d1, d2, d3⟩ := hd5.at4
  simp only [Nat.zero_add] at n1 n2 n3 a1 a2 a3 d1 d2 d3
  go_wp2_with fail
  refine (qspan_any W5 w40 9 13 (by omega) (by omega)).mono ?_
  rintro en w6 ⟨rfl, hb6⟩
  have hr6 := hr5.later hb6; have hB6 := hB5.step hb6
  clear hr5 hB5 hb6 n0 n1 n2 n3 a0 a1 a2 a3 d0 d1 d2 d3 hn5 ha5 hd5
  rw [show 13 + 1 - 9 = 5 from rfl]
  generalize hX6 : (w40.span 9 5) = T6 at *
  have HX6 := Lib.hid hX6
  clear hX6
  go_wp2_with fail
  refine (qin_any w6 T6 32 (by omega)).mono ?_
  rintro en w7 ⟨rfl, hb7⟩
  have hr7 := hr6.later hb7; have hB7 := hB6.step hb7
  clear hr6 hB6 hb7
  generalize hX7 : (T6.add 32) = T7 at *
  have HX7 := Lib.hid hX7
  clear hX7
  obtain ⟨r0, r1, r2, r3⟩ := hr7.at4
  simp only [Nat.zero_add] at r1 r2 r3
  have y0 := hr7.froz 0; have y1 := hr7.froz 1; have y2 := hr7.froz 2; have y3 := hr7.froz 3
  have HR := Lib.hid hr7; have HB := Lib.hid hB7
  clear hr7 hB7
  go_wp2_with fail
  change bodyPost _ _ _ _ _ (setV w7 w.heap.size T7)
  obtain ⟨q0, q1, q2, q3⟩ := (HR.out.setV T7).at4
  simp only [Nat.zero_add] at q1 q2 q3
  have hB := HB.out.setV (b := w.heap.size) (Nat.le_refl _) T7
  clear r0 r1 r2 r3 y0 y1 y2 y3
  generalize setV w7 w.heap.size T7 = WZ at *
  exact bodyPost_ret (v := .tuple #[T7.V, .bool true]) (by simp [results, Tryz.results166, go_sem, q0, q1, q2, q3]) rfl ⟨by rw [Hc.out], hB⟩
set_option maxRecDepth 100000 in
set_option maxHeartbeats 4000000 in
theorem class_blank (w : World) : Calls Tryz.prog 166 #[.string (bs [98, 108, 97, 110, 107])] w fun en w' => en = .returned (.tuple #[(clsQ [98, 108, 97, 110, 107]).1.V, .bool (clsQ [98, 108, 97, 110, 107]).2]) ∧ Below w.heap.size w w' := by
  have Hc := Lib.hid (show clsQ [98, 108, 97, 110, 107] = (((w40.add 9).add 32), true) from rfl)
  go_enter Tryz.func166, Tryz.ntmps166
  go_upto_region 2 with fail
  generalize hW : (w.alloc _).alloc _ = W0
  have hr0 : SetAt W0 w.heap.size w40 := by subst hW; exact (SetAt.new w).later ((Below.refl _ _).alloc (Nat.le_refl _) _)
  have hn0 : SetAt W0 (w.heap.size + 1) w40 := by
    subst hW
    have := SetAt.new (w.alloc (.cells #[.int .u64 0, .int .u64 0, .int .u64 0, .int .u64 0] 28))
    simpa using this
  have hb0 : Below w.heap.size w W0 := by subst hW; exact ((Below.refl _ _).alloc (Nat.le_refl _) _).alloc (by simp) _
  clear hW
  obtain ⟨f0, f1, f2, f3⟩ := hn0.at4
  simp only [Nat.zero_add] at f1 f2 f3
  go_wp2_with fail
  refine (qspan_any W0 w40 65 90 (by omega) (by omega)).mono ?_
  rintro en w1 ⟨rfl, hb1⟩
  have hr1 := hr0.later hb1; have hn1 := hn0.later hb1; have hB1 := hb0.step hb1
  clear hr0 hn0 hb0 hb1 f0 f1 f2 f3
  go_wp2_with fail
  refine (qspan_any w1 (w40.span 65 26) 97 122 (by omega) (by omega)).mono ?_
  rintro en w2 ⟨rfl, hb2⟩
  have hr2 := hr1.later hb2; have hn2 := hn1.later hb2; have hB2 := hB1.step hb2
  clear hr1 hn1 hB1 hb2
  rw [show 122 + 1 - 97 = 26 from rfl]
  have hga : SetAt (w2.alloc (.cells #[.int .u64 ((w40.span 65 26).span 97 26).a, .int .u64 ((w40.span 65 26).span 97 26).b, .int .u64 ((w40.span 65 26).span 97 26).c, .int .u64 ((w40.span 65 26).span 97 26).d] 28)) w2.heap.size ((w40.span 65 26).span 97 26) := SetAt.box w2 _
  have Hga := Lib.hid hga
  clear hga
  generalize hA : ((w40.span 65 26).span 97 26) = TA at *
  have HA := Lib.hid hA
  clear hA
  go_upto_region 3 with fail
  generalize hW : w2.alloc _ = W3
  have hb3 : Below w2.heap.size w2 W3 := by subst hW; exact (Below.refl _ _).alloc (Nat.le_refl _) _
  have ha3 : SetAt W3 w2.heap.size TA := by subst hW; exact Hga.out
  clear hW Hga
  have hr3 := hr2.later hb3; have hn3 := hn2.later hb3; have hB3 := hB2.step hb3
  clear hr2 hn2 hB2 hb3
  obtain ⟨f0, f1, f2, f3⟩ := hn3.at4
  simp only [Nat.zero_add] at f1 f2 f3
  go_wp2_with fail
  refine (qspan_any W3 w40 48 57 (by omega) (by omega)).mono ?_
  rintro en w4 ⟨rfl, hb4⟩
  have hr4 := hr3.later hb4; have hn4 := hn3.later hb4; have hB4 := hB3.step hb4; have ha4 := ha3.later hb4
  clear hr3 hn3 hB3 hb4 ha3 f0 f1 f2 f3
  rw [show 57 + 1 - 48 = 10 from rfl]
  have hgd : SetAt (w4.alloc (.cells #[.int .u64 (w40.span 48 10).a, .int .u64 (w40.span 48 10).b, .int .u64 (w40.span 48 10).c, .int .u64 (w40.span 48 10).d] 28)) w4.heap.size (w40.span 48 10) := SetAt.box w4 _
  have Hgd := Lib.hid hgd
  clear hgd
  generalize hD : (w40.span 48 10) = TD at *
  have HD := Lib.hid hD
  clear hD
  go_upto_region 4 with fail
  generalize hW : w4.alloc _ = W5
  have hb5 : Below w4.heap.size w4 W5 := by subst hW; exact (Below.refl _ _).alloc (Nat.le_refl _) _
  have hd5 : SetAt W5 w4.heap.size TD := by subst hW; exact Hgd.out
  clear hW Hgd
  have hr5 := hr4.later hb5; have hn5 := hn4.later hb5; have hB5 := hB4.step hb5; have ha5 := ha4.later hb5
  clear hr4 hn4 hB4 hb5 ha4
  obtain ⟨n0, n1, n2, n3⟩ := hn5.at4
  obtain ⟨a0, a1, a2, a3⟩ := ha5.at4
  obtain ⟨d0, d1, d2, d3⟩ := hd5.at4
  simp only [Nat.zero_add] at n1 n2 n3 a1 a2 a3 d1 d2 d3
  go_wp2_with fail
  refine (qin_any W5 w40 9 (by omega)).mono ?_
  rintro en w6 ⟨rfl, hb6⟩
  have hr6 := hr5.later hb6; have hB6 := hB5.step hb6
  clear hr5 hB5 hb6 n0 n1 n2 n3 a0 a1 a2 a3 d0 d1 d2 d3 hn5 ha5 hd5
  generalize hX6 : (w40.add 9) = T6 at *
  have HX6 := Lib.hid hX6
  clear hX6
  go_wp2_with fail
  refine (qin_any w6 T6 32 (by omega)).mono ?_
  rintro en w7 ⟨rfl, hb7⟩
  have hr7 := hr6.later hb7; have hB7 := hB6.step hb7
  clear hr6 hB6 hb7
  generalize hX7 : (T6.add 32) = T7 at *
  have HX7 := Lib.hid hX7
  clear hX7
  obtain ⟨r0, r1, r2, r3⟩ := hr7.at4
  simp only [Nat.zero_add] at r1 r2 r3
  have y0 := hr7.froz 0; have y1 := hr7.froz 1; have y2 := hr7.froz 2; have y3 := hr7.froz 3
  have HR := Lib.hid hr7; have HB := Lib.hid hB7
  clear hr7 hB7
  go_wp2_with fail
  change bodyPost _ _ _ _ _ (setV w7 w.heap.size T7)
  obtain ⟨q0, q1, q2, q3⟩ := (HR.out.setV T7).at4
  simp only [Nat.zero_add] at q1 q2 q3
  have hB := HB.out.setV (b := w.heap.size) (Nat.le_refl _) T7
  clear r0 r1 r2 r3 y0 y1 y2 y3
  generalize setV w7 w.heap.size T7 = WZ at *
  exact bodyPost_ret (v := .tuple #[T7.V, .bool true]) (by simp [results, Tryz.results166, go_sem, q0, q1, q2, q3]) rfl ⟨by rw [Hc.out], hB⟩
set_option maxRecDepth 100000 in
set_option maxHeartbeats 4000000 in
theorem class_cntrl (w : World) : Calls Tryz.prog 166 #[.string (bs [99, 110, 116, 114, 108])] w fun en w' => en = .returned (.tuple #[(clsQ [99, 110, 116, 114, 108]).1.V, .bool (clsQ [99, 110, 116, 114, 108]).2]) ∧ Below w.heap.size w w' := by
  have Hc := Lib.hid (show clsQ [99, 110, 116, 114, 108] = (((w40.span 0 32).add 127), true) from rfl)
  go_enter Tryz.func166, Tryz.ntmps166
  go_upto_region 2 with fail
  generalize hW : (w.alloc _).alloc _ = W0
  have hr0 : SetAt W0 w.heap.size w40 := by subst hW; exact (SetAt.new w).later ((Below.refl _ _).alloc (Nat.le_refl _) _)
  have hn0 : SetAt W0 (w.heap.size + 1) w40 := by
    subst hW
    have := SetAt.new (w.alloc (.cells #[.int .u64 0, .int .u64 0, .int .u64 0, .int .u64 0] 28))
    simpa using this
  have hb0 : Below w.heap.size w W0 := by subst hW; exact ((Below.refl _ _).alloc (Nat.le_refl _) _).alloc (by simp) _
  clear hW
  obtain ⟨f0, f1, f2, f3⟩ := hn0.at4
  simp only [Nat.zero_add] at f1 f2 f3
  go_wp2_with fail
  refine (qspan_any W0 w40 65 90 (by omega) (by omega)).mono ?_
  rintro en w1 ⟨rfl, hb1⟩
  have hr1 := hr0.later hb1; have hn1 := hn0.later hb1; have hB1 := hb0.step hb1
  clear hr0 hn0 hb0 hb1 f0 f1 f2 f3
  go_wp2_with fail
  refine (qspan_any w1 (w40.span 65 26) 97 122 (by omega) (by omega)).mono ?_
  rintro en w2 ⟨rfl, hb2⟩
  have hr2 := hr1.later hb2; have hn2 := hn1.later hb2; have hB2 := hB1.step hb2
  clear hr1 hn1 hB1 hb2
  rw [show 122 + 1 - 97 = 26 from rfl]
  have hga : SetAt (w2.alloc (.cells #[.int .u64 ((w40.span 65 26).span 97 26).a, .int .u64 ((w40.span 65 26).span 97 26).b, .int .u64 ((w40.span 65 26).span 97 26).c, .int .u64 ((w40.span 65 26).span 97 26).d] 28)) w2.heap.size ((w40.span 65 26).span 97 26) := SetAt.box w2 _
  have Hga := Lib.hid hga
  clear hga
  generalize hA : ((w40.span 65 26).span 97 26) = TA at *
  have HA := Lib.hid hA
  clear hA
  go_upto_region 3 with fail
  generalize hW : w2.alloc _ = W3
  have hb3 : Below w2.heap.size w2 W3 := by subst hW; exact (Below.refl _ _).alloc (Nat.le_refl _) _
  have ha3 : SetAt W3 w2.heap.size TA := by subst hW; exact Hga.out
  clear hW Hga
  have hr3 := hr2.later hb3; have hn3 := hn2.later hb3; have hB3 := hB2.step hb3
  clear hr2 hn2 hB2 hb3
  obtain ⟨f0, f1, f2, f3⟩ := hn3.at4
  simp only [Nat.zero_add] at f1 f2 f3
  go_wp2_with fail
  refine (qspan_any W3 w40 48 57 (by omega) (by omega)).mono ?_
  rintro en w4 ⟨rfl, hb4⟩
  have hr4 := hr3.later hb4; have hn4 := hn3.later hb4; have hB4 := hB3.step hb4; have ha4 := ha3.later hb4
  clear hr3 hn3 hB3 hb4 ha3 f0 f1 f2 f3
  rw [show 57 + 1 - 48 = 10 from rfl]
  have hgd : SetAt (w4.alloc (.cells #[.int .u64 (w40.span 48 10).a, .int .u64 (w40.span 48 10).b, .int .u64 (w40.span 48 10).c, .int .u64 (w40.span 48 10).d] 28)) w4.heap.size (w40.span 48 10) := SetAt.box w4 _
  have Hgd := Lib.hid hgd
  clear hgd
  generalize hD : (w40.span 48 10) = TD at *
  have HD := Lib.hid hD
  clear hD
  go_upto_region 4 with fail
  generalize hW : w4.alloc _ = W5
  have hb5 : Below w4.heap.size w4 W5 := by subst hW; exact (Below.refl _ _).alloc (Nat.le_refl _) _
  have hd5 : SetAt W5 w4.heap.size TD := by subst hW; exact Hgd.out
  clear hW Hgd
  have hr5 := hr4.later hb5; have hn5 := hn4.later hb5; have hB5 := hB4.step hb5; have ha5 := ha4.later hb5
  clear hr4 hn4 hB4 hb5 ha4
  obtain ⟨n0, n1, n2, n3⟩ := hn5.at4
  obtain ⟨a0, a1, a2, a3⟩ := ha5.at4
  obtain ⟨d0, d1, d2, d3⟩ := hd5.at4
  simp only [Nat.zero_add] at n1 n2 n3 a1 a2 a3 d1 d2 d3
  go_wp2_with fail
  refine (qspan_any W5 w40 0 31 (by omega) (by omega)).mono ?_
  rintro en w6 ⟨rfl, hb6⟩
  have hr6 := hr5.later hb6; have hB6 := hB5.step hb6
  clear hr5 hB5 hb6 n0 n1 n2 n3 a0 a1 a2 a3 d0 d1 d2 d3 hn5 ha5 hd5
  rw [show 31 + 1 - 0 = 32 from rfl]
  generalize hX6 : (w40.span 0 32) = T6 at *
  have HX6 := Lib.hid hX6
  clear hX6
  go_wp2_with fail
  refine (qin_any w6 T6 127 (by omega)).mono ?_
  rintro en w7 ⟨rfl, hb7⟩
  have hr7 := hr6.later hb7; have hB7 := hB6.step hb7
  clear hr6 hB6 hb7
  generalize hX7 : (T6.add 127) = T7 at *
  have HX7 := Lib.hid hX7
  clear hX7
  obtain ⟨r0, r1, r2, r3⟩ := hr7.at4
  simp only [Nat.zero_add] at r1 r2 r3
  have y0 := hr7.froz 0; have y1 := hr7.froz 1; have y2 := hr7.froz 2; have y3 := hr7.froz 3
  have HR := Lib.hid hr7; have HB := Lib.hid hB7
  clear hr7 hB7
  go_wp2_with fail
  change bodyPost _ _ _ _ _ (setV w7 w.heap.size T7)
  obtain ⟨q0, q1, q2, q3⟩ := (HR.out.setV T7).at4
  simp only [Nat.zero_add] at q1 q2 q3
  have hB := HB.out.setV (b := w.heap.size) (Nat.le_refl _) T7
  clear r0 r1 r2 r3 y0 y1 y2 y3
  generalize setV w7 w.heap.size T7 = WZ at *
  exact bodyPost_ret (v := .tuple #[T7.V, .bool true]) (by simp [results, Tryz.results166, go_sem, q0, q1, q2, q3]) rfl ⟨by rw [Hc.out], hB⟩
set_option maxRecDepth 100000 in
set_option maxHeartbeats 4000000 in
theorem class_graph (w : World) : Calls Tryz.prog 166 #[.string (bs [103, 114, 97, 112, 104])] w fun en w' => en = .returned (.tuple #[(clsQ [103, 114, 97, 112, 104]).1.V, .bool (clsQ [103, 114, 97, 112, 104]).2]) ∧ Below w.heap.size w w' := by
  have Hc := Lib.hid (show clsQ [103, 114, 97, 112, 104] = ((w40.span 33 94), true) from rfl)
  go_enter Tryz.func166, Tryz.ntmps166
  go_upto_region 2 with fail
  generalize hW : (w.alloc _).alloc _ = W0
  have hr0 : SetAt W0 w.heap.size w40 := by subst hW; exact (SetAt.new w).later ((Below.refl _ _).alloc (Nat.le_refl _) _)
  have hn0 : SetAt W0 (w.heap.size + 1) w40 := by
    subst hW
    have := SetAt.new (w.alloc (.cells #[.int .u64 0, .int .u64 0, .int .u64 0, .int .u64 0] 28))
    simpa using this
  have hb0 : Below w.heap.size w W0 := by subst hW; exact ((Below.refl _ _).alloc (Nat.le_refl _) _).alloc (by simp) _
  clear hW
  obtain ⟨f0, f1, f2, f3⟩ := hn0.at4
  simp only [Nat.zero_add] at f1 f2 f3
  go_wp2_with fail
  refine (qspan_any W0 w40 65 90 (by omega) (by omega)).mono ?_
  rintro en w1 ⟨rfl, hb1⟩
  have hr1 := hr0.later hb1; have hn1 := hn0.later hb1; have hB1 := hb0.step hb1
  clear hr0 hn0 hb0 hb1 f0 f1 f2 f3
  go_wp2_with fail
  refine (qspan_any w1 (w40.span 65 26) 97 122 (by omega) (by omega)).mono ?_
  rintro en w2 ⟨rfl, hb2⟩
  have hr2 := hr1.later hb2; have hn2 := hn1.later hb2; have hB2 := hB1.step hb2
  clear hr1 hn1 hB1 hb2
  rw [show 122 + 1 - 97 = 26 from rfl]
  have hga : SetAt (w2.alloc (.cells #[.int .u64 ((w40.span 65 26).span 97 26).a, .int .u64 ((w40.span 65 26).span 97 26).b, .int .u64 ((w40.span 65 26).span 97 26).c, .int .u64 ((w40.span 65 26).span 97 26).d] 28)) w2.heap.size ((w40.span 65 26).span 97 26) := SetAt.box w2 _
  have Hga := Lib.hid hga
  clear hga
  generalize hA : ((w40.span 65 26).span 97 26) = TA at *
  have HA := Lib.hid hA
  clear hA
  go_upto_region 3 with fail
  generalize hW : w2.alloc _ = W3
  have hb3 : Below w2.heap.size w2 W3 := by subst hW; exact (Below.refl _ _).alloc (Nat.le_refl _) _
  have ha3 : SetAt W3 w2.heap.size TA := by subst hW; exact Hga.out
  clear hW Hga
  have hr3 := hr2.later hb3; have hn3 := hn2.later hb3; have hB3 := hB2.step hb3
  clear hr2 hn2 hB2 hb3
  obtain ⟨f0, f1, f2, f3⟩ := hn3.at4
  simp only [Nat.zero_add] at f1 f2 f3
  go_wp2_with fail
  refine (qspan_any W3 w40 48 57 (by omega) (by omega)).mono ?_
  rintro en w4 ⟨rfl, hb4⟩
  have hr4 := hr3.later hb4; have hn4 := hn3.later hb4; have hB4 := hB3.step hb4; have ha4 := ha3.later hb4
  clear hr3 hn3 hB3 hb4 ha3 f0 f1 f2 f3
  rw [show 57 + 1 - 48 = 10 from rfl]
  have hgd : SetAt (w4.alloc (.cells #[.int .u64 (w40.span 48 10).a, .int .u64 (w40.span 48 10).b, .int .u64 (w40.span 48 10).c, .int .u64 (w40.span 48 10).d] 28)) w4.heap.size (w40.span 48 10) := SetAt.box w4 _
  have Hgd := Lib.hid hgd
  clear hgd
  generalize hD : (w40.span 48 10) = TD at *
  have HD := Lib.hid hD
  clear hD
  go_upto_region 4 with fail
  generalize hW : w4.alloc _ = W5
  have hb5 : Below w4.heap.size w4 W5 := by subst hW; exact (Below.refl _ _).alloc (Nat.le_refl _) _
  have hd5 : SetAt W5 w4.heap.size TD := by subst hW; exact Hgd.out
  clear hW Hgd
  have hr5 := hr4.later hb5; have hn5 := hn4.later hb5; have hB5 := hB4.step hb5; have ha5 := ha4.later hb5
  clear hr4 hn4 hB4 hb5 ha4
  obtain ⟨n0, n1, n2, n3⟩ := hn5.at4
  obtain ⟨a0, a1, a2, a3⟩ := ha5.at4
  obtain ⟨d0, d1, d2, d3⟩ := hd5.at4
  simp only [Nat.zero_add] at n1 n2 n3 a1 a2 a3 d1 d2 d3
  go_wp2_with fail
  refine (qspan_any W5 w40 33 126 (by omega) (by omega)).mono ?_
  rintro en w6 ⟨rfl, hb6⟩
  have hr6 := hr5.later hb6; have hB6 := hB5.step hb6
  clear hr5 hB5 hb6 n0 n1 n2 n3 a0 a1 a2 a3 d0 d1 d2 d3 hn5 ha5 hd5
  rw [show 126 + 1 - 33 = 94 from rfl]
  generalize hX6 : (w40.span 33 94) = T6 at *
  have HX6 := Lib.hid hX6
  clear hX6
  obtain ⟨r0, r1, r2, r3⟩ := hr6.at4
  simp only [Nat.zero_add] at r1 r2 r3
  have y0 := hr6.froz 0; have y1 := hr6.froz 1; have y2 := hr6.froz 2; have y3 := hr6.froz 3
  have HR := Lib.hid hr6; have HB := Lib.hid hB6
  clear hr6 hB6
  go_wp2_with fail
  change bodyPost _ _ _ _ _ (setV w6 w.heap.size T6)
  obtain ⟨q0, q1, q2, q3⟩ := (HR.out.setV T6).at4
  simp only [Nat.zero_add] at q1 q2 q3
  have hB := HB.out.setV (b := w.heap.size) (Nat.le_refl _) T6
  clear r0 r1 r2 r3 y0 y1 y2 y3
  generalize setV w6 w.heap.size T6 = WZ at *
  exact bodyPost_ret (v := .tuple #[T6.V, .bool true]) (by simp [results, Tryz.results166, go_sem, q0, q1, q2, q3]) rfl ⟨by rw [Hc.out], hB⟩
set_option maxRecDepth 100000 in
set_option maxHeartbeats 4000000 in
theorem class_print (w : World) : Calls Tryz.prog 166 #[.string (bs [112, 114, 105, 110, 116])] w fun en w' => en = .returned (.tuple #[(clsQ [112, 114, 105, 110, 116]).1.V, .bool (clsQ [112, 114, 105, 110, 116]).2]) ∧ Below w.heap.size w w' := by
  have Hc := Lib.hid (show clsQ [112, 114, 105, 110, 116] = ((w40.span 32 95), true) from rfl)
  go_enter Tryz.func166, Tryz.ntmps166
  go_upto_region 2 with fail
  generalize hW : (w.alloc _).alloc _ = W0
  have hr0 : SetAt W0 w.heap.size w40 := by subst hW; exact (SetAt.new w).later ((Below.refl _ _).alloc (Nat.le_refl _) _)
  have hn0 : SetAt W0 (w.heap.size + 1) w40 := by
    subst hW
    have := SetAt.new (w.alloc (.cells #[.int .u64 0, .int .u64 0, .int .u64 0, .int .u64 0] 28))
    simpa using this
  have hb0 : Below w.heap.size w W0 := by subst hW; exact ((Below.refl _ _).alloc (Nat.le_refl _) _).alloc (by simp) _
  clear hW
  obtain ⟨f0, f1, f2, f3⟩ := hn0.at4
  simp only [Nat.zero_add] at f1 f2 f3
  go_wp2_with fail
  refine (qspan_any W0 w40 65 90 (by omega) (by omega)).mono ?_
  rintro en w1 ⟨rfl, hb1⟩
  have hr1 := hr0.later hb1; have hn1 := hn0.later hb1; have hB1 := hb0.step hb1
  clear hr0 hn0 hb0 hb1 f0 f1 f2 f3
  go_wp2_with fail
  refine (qspan_any w1 (w40.span 65 26) 97 122 (by omega) (by omega)).mono ?_
  rintro en w2 ⟨rfl, hb2⟩
  have hr2 := hr1.later hb2; have hn2 := hn1.later hb2; have hB2 := hB1.step hb2
  clear hr1 hn1 hB1 hb2
  rw [show 122 + 1 - 97 = 26 from rfl]
  have hga : SetAt (w2.alloc (.cells #[.int .u64 ((w40.span 65 26).span 97 26).a, .int .u64 ((w40.span 65 26).span 97 26).b, .int .u64 ((w40.span 65 26).span 97 26).c, .int .u64 ((w40.span 65 26).span 97 26).d] 28)) w2.heap.size ((w40.span 65 26).span 97 26) := SetAt.box w2 _
  have Hga := Lib.hid hga
  clear hga
  generalize hA : ((w40.span 65 26).span 97 26) = TA at *
  have HA := Lib.hid hA
  clear hA
  go_upto_region 3 with fail
  generalize hW : w2.alloc _ = W3
  have hb3 : Below w2.heap.size w2 W3 := by subst hW; exact (Below.refl _ _).alloc (Nat.le_refl _) _
  have ha3 : SetAt W3 w2.heap.size TA := by subst hW; exact Hga.out
  clear hW Hga
  have hr3 := hr2.later hb3; have hn3 := hn2.later hb3; have hB3 := hB2.step hb3
  clear hr2 hn2 hB2 hb3
  obtain ⟨f0, f1, f2, f3⟩ := hn3.at4
  simp only [Nat.zero_add] at f1 f2 f3
  go_wp2_with fail
  refine (qspan_any W3 w40 48 57 (by omega) (by omega)).mono ?_
  rintro en w4 ⟨rfl, hb4⟩
  have hr4 := hr3.later hb4; have hn4 := hn3.later hb4; have hB4 := hB3.step hb4; have ha4 := ha3.later hb4
  clear hr3 hn3 hB3 hb4 ha3 f0 f1 f2 f3
  rw [show 57 + 1 - 48 = 10 from rfl]
  have hgd : SetAt (w4.alloc (.cells #[.int .u64 (w40.span 48 10).a, .int .u64 (w40.span 48 10).b, .int .u64 (w40.span 48 10).c, .int .u64 (w40.span 48 10).d] 28)) w4.heap.size (w40.span 48 10) := SetAt.box w4 _
  have Hgd := Lib.hid hgd
  clear hgd
  generalize hD : (w40.span 48 10) = TD at *
  have HD := Lib.hid hD
  clear hD
  go_upto_region 4 with fail
  generalize hW : w4.alloc _ = W5
  have hb5 : Below w4.heap.size w4 W5 := by subst hW; exact (Below.refl _ _).alloc (Nat.le_refl _) _
  have hd5 : SetAt W5 w4.heap.size TD := by subst hW; exact Hgd.out
  clear hW Hgd
  have hr5 := hr4.later hb5; have hn5 := hn4.later hb5; have hB5 := hB4.step hb5; have ha5 := ha4.later hb5
  clear hr4 hn4 hB4 hb5 ha4
  obtain ⟨n0, n1, n2, n3⟩ := hn5.at4
  obtain ⟨a0, a1, a2, a3⟩ := ha5.at4
  obtain ⟨d0, d1, d2, d3⟩ := hd5.at4
  simp only [Nat.zero_add] at n1 n2 n3 a1 a2 a3 d1 d2 d3
  go_wp2_with fail
  refine (qspan_any W5 w40 32 126 (by omega) (by omega)).mono ?_
  rintro en w6 ⟨rfl, hb6⟩
  have hr6 := hr5.later hb6; have hB6 := hB5.step hb6
  clear hr5 hB5 hb6 n0 n1 n2 n3 a0 a1 a2 a3 d0 d1 d2 d3 hn5 ha5 hd5
  rw [show 126 + 1 - 32 = 95 from rfl]
  generalize hX6 : (w40.span 32 95) = T6 at *
  have HX6 := Lib.hid hX6
  clear hX6
  obtain ⟨r0, r1, r2, r3⟩ := hr6.at4
  simp only [Nat.zero_add] at r1 r2 r3
  have y0 := hr6.froz 0; have y1 := hr6.froz 1; have y2 := hr6.froz 2; have y3 := hr6.froz 3
  have HR := Lib.hid hr6; have HB := Lib.hid hB6
  clear hr6 hB6
  go_wp2_with fail
  change bodyPost _ _ _ _ _ (setV w6 w.heap.size T6)
  obtain ⟨q0, q1, q2, q3⟩ := (HR.out.setV T6).at4
  simp only [Nat.zero_add] at q1 q2 q3
  have hB := HB.out.setV (b := w.heap.size) (Nat.le_refl _) T6
  clear r0 r1 r2 r3 y0 y1 y2 y3
  generalize setV w6 w.heap.size T6 = WZ at *
  exact bodyPost_ret (v := .tuple #[T6.V, .bool true]) (by simp [results, Tryz.results166, go_sem, q0, q1, q2, q3]) rfl ⟨by rw [Hc.out], hB⟩
set_option maxRecDepth 100000 in
set_option maxHeartbeats 4000000 in
theorem class_punct (w : World) : Calls Tryz.prog 166 #[.string (bs [112, 117, 110, 99, 116])] w fun en w' => en = .returned (.tuple #[(clsQ [112, 117, 110, 99, 116]).1.V, .bool (clsQ [112, 117, 110, 99, 116]).2]) ∧ Below w.heap.size w w' := by
  have Hc := Lib.hid (show clsQ [112, 117, 110, 99, 116] = (((((w40.span 33 15).span 58 7).span 91 6).span 123 4), true) from rfl)
  go_enter Tryz.func166, Tryz.ntmps166
  go_upto_region 2 with fail
  generalize hW : (w.alloc _).alloc _ = W0
  have hr0 : SetAt W0 w.heap.size w40 := by subst hW; exact (SetAt.new w).later ((Below.refl _ _).alloc (Nat.le_refl _) _)
  have hn0 : SetAt W0 (w.heap.size + 1) w40 := by
    subst hW
    have := SetAt.new (w.alloc (.cells #[.int .u64 0, .int .u64 0, .int .u64 0, .int .u64 0] 28))
    simpa using this
  have hb0 : Below w.heap.size w W0 := by subst hW; exact ((Below.refl _ _).alloc (Nat.le_refl _) _).alloc (by simp) _
  clear hW
  obtain ⟨f0, f1, f2, f3⟩ := hn0.at4
  simp only [Nat.zero_add] at f1 f2 f3
  go_wp2_with fail
  refine (qspan_any W0 w40 65 90 (by omega) (by omega)).mono ?_
  rintro en w1 ⟨rfl, hb1⟩
  have hr1 := hr0.later hb1; have hn1 := hn0.later hb1; have hB1 := hb0.step hb1
  clear hr0 hn0 hb0 hb1 f0 f1 f2 f3
  go_wp2_with fail
  refine (qspan_any w1 (w40.span 65 26) 97 122 (by omega) (by omega)).mono ?_
  rintro en w2 ⟨rfl, hb2⟩
  have hr2 := hr1.later hb2; have hn2 := hn1.later hb2; have hB2 := hB1.step hb2
  clear hr1 hn1 hB1 hb2
  rw [show 122 + 1 - 97 = 26 from rfl]
  have hga : SetAt (w2.alloc (.cells #[.int .u64 ((w40.span 65 26).span 97 26).a, .int .u64 ((w40.span 65 26).span 97 26).b, .int .u64 ((w40.span 65 26).span 97 26).c, .int .u64 ((w40.span 65 26).span 97 26).d] 28)) w2.heap.size ((w40.span 65 26).span 97 26) := SetAt.box w2 _
  have Hga := Lib.hid hga
  clear hga
  generalize hA : ((w40.span 65 26).span 97 26) = TA at *
  have HA := Lib.hid hA
  clear hA
  go_upto_region 3 with fail
  generalize hW : w2.alloc _ = W3
  have hb3 : Below w2.heap.size w2 W3 := by subst hW; exact (Below.refl _ _).alloc (Nat.le_refl _) _
  have ha3 : SetAt W3 w2.heap.size TA := by subst hW; exact Hga.out
  clear hW Hga
  have hr3 := hr2.later hb3; have hn3 := hn2.later hb3; have hB3 := hB2.step hb3
  clear hr2 hn2 hB2 hb3
  obtain ⟨f0, f1, f2, f3⟩ := hn3.at4
  simp only [Nat.zero_add] at f1 f2 f3
  go_wp2_with fail
  refine (qspan_any W3 w40 48 57 (by omega) (by omega)).mono ?_
  rintro en w4 ⟨rfl, hb4⟩
  have hr4 := hr3.later hb4; have hn4 := hn3.later hb4; have hB4 := hB3.step hb4; have ha4 := ha3.later hb4
  clear hr3 hn3 hB3 hb4 ha3 f0 f1 f2 f3
  rw [show 57 + 1 - 48 = 10 from rfl]
  have hgd : SetAt (w4.alloc (.cells #[.int .u64 (w40.span 48 10).a, .int .u64 (w40.span 48 10).b, .int .u64 (w40.span 48 10).c, .int .u64 (w40.span 48 10).d] 28)) w4.heap.size (w40.span 48 10) := SetAt.box w4 _
  have Hgd := Lib.hid hgd
  clear hgd
  generalize hD : (w40.span 48 10) = TD at *
  have HD := Lib.hid hD
  clear hD
  go_upto_region 4 with fail
  generalize hW : w4.alloc _ = W5
  have hb5 : Below w4.heap.size w4 W5 := by subst hW; exact (Below.refl _ _).alloc (Nat.le_refl _) _
  have hd5 : SetAt W5 w4.heap.size TD := by subst hW; exact Hgd.out
  clear hW Hgd
  have hr5 := hr4.later hb5; have hn5 := hn4.later hb5; have hB5 := hB4.step hb5; have ha5 := ha4.later hb5
  clear hr4 hn4 hB4 hb5 ha4
  obtain ⟨n0, n1, n2, n3⟩ := hn5.at4
  obtain ⟨a0, a1, a2, a3⟩ := ha5.at4
  obtain ⟨d0, d1, d2, d3⟩ := hd5.at4
  simp only [Nat.zero_add] at n1 n2 n3 a1 a2 a3 d1 d2 d3
  go_wp2_with fail
  refine (qspan_any W5 w40 33 47 (by omega) (by omega)).mono ?_
  rintro en w6 ⟨rfl, hb6⟩
  have hr6 := hr5.later hb6; have hB6 := hB5.step hb6
  clear hr5 hB5 hb6 n0 n1 n2 n3 a0 a1 a2 a3 d0 d1 d2 d3 hn5 ha5 hd5
  rw [show 47 + 1 - 33 = 15 from rfl]
  generalize hX6 : (w40.span 33 15) = T6 at *
  have HX6 := Lib.hid hX6
  clear hX6
  go_wp2_with fail
  refine (qspan_any w6 T6 58 64 (by omega) (by omega)).mono ?_
  rintro en w7 ⟨rfl, hb7⟩
  have hr7 := hr6.later hb7; have hB7 := hB6.step hb7
  clear hr6 hB6 hb7
  rw [show 64 + 1 - 58 = 7 from rfl]
  generalize hX7 : (T6.span 58 7) = T7 at *
  have HX7 := Lib.hid hX7
  clear hX7
  go_wp2_with fail
  refine (qspan_any w7 T7 91 96 (by omega) (by omega)).mono ?_
  rintro en w8 ⟨rfl, hb8⟩
  have hr8 := hr7.later hb8; have hB8 := hB7.step hb8
  clear hr7 hB7 hb8
  rw [show 96 + 1 - 91 = 6 from rfl]
  generalize hX8 : (T7.span 91 6) = T8 at *
  have HX8 := Lib.hid hX8
  clear hX8
  go_wp2_with fail
  refine (qspan_any w8 T8 123 126 (by omega) (by omega)).mono ?_
  rintro en w9 ⟨rfl, hb9⟩
  have hr9 := hr8.later hb9; have hB9 := hB8.step hb9
  clear hr8 hB8 hb9
  rw [show 126 + 1 - 123 = 4 from rfl]
  generalize hX9 : (T8.span 123 4) = T9 at *
  have HX9 := Lib.hid hX9
  clear hX9
  obtain ⟨r0, r1, r2, r3⟩ := hr9.at4
  simp only [Nat.zero_add] at r1 r2 r3
  have y0 := hr9.froz 0; have y1 := hr9.froz 1; have y2 := hr9.froz 2; have y3 := hr9.froz 3
  have HR := Lib.hid hr9; have HB := Lib.hid hB9
  clear hr9 hB9
  go_wp2_with fail
  change bodyPost _ _ _ _ _ (setV w9 w.heap.size T9)
  obtain ⟨q0, q1, q2, q3⟩ := (HR.out.setV T9).at4
  simp only [Nat.zero_add] at q1 q2 q3
  have hB := HB.out.setV (b := w.heap.size) (Nat.le_refl _) T9
  clear r0 r1 r2 r3 y0 y1 y2 y3
  generalize setV w9 w.heap.size T9 = WZ at *
  exact bodyPost_ret (v := .tuple #[T9.V, .bool true]) (by simp [results, Tryz.results166, go_sem, q0, q1, q2, q3]) rfl ⟨by rw [Hc.out], hB⟩
set_option maxRecDepth 100000 in
set_option maxHeartbeats 4000000 in
theorem class_none (w : World) (nm : Bs) (h : nm ≠ [97, 108, 112, 104, 97] ∧ nm ≠ [117, 112, 112, 101, 114] ∧ nm ≠ [108, 111, 119, 101, 114] ∧ nm ≠ [100, 105, 103, 105, 116] ∧ nm ≠ [97, 108, 110, 117, 109] ∧ nm ≠ [120, 100, 105, 103, 105, 116] ∧ nm ≠ [115, 112, 97, 99, 101] ∧ nm ≠ [98, 108, 97, 110, 107] ∧ nm ≠ [99, 110, 116, 114, 108] ∧ nm ≠ [103, 114, 97, 112, 104] ∧ nm ≠ [112, 114, 105, 110, 116] ∧ nm ≠ [112, 117, 110, 99, 116]) : Calls Tryz.prog 166 #[.string (bs nm)] w fun en w' => en = .returned (.tuple #[(clsQ nm).1.V, .bool (clsQ nm).2]) ∧ Below w.heap.size w w' := by
  have hc : clsQ nm = (w40, false) := by
    obtain ⟨h0, h1, h2, h3, h4, h5, h6, h7, h8, h9, h10, h11⟩ := h
    unfold clsQ classW
    rw [if_neg h0, if_neg h1, if_neg h2, if_neg h3, if_neg h4, if_neg h5, if_neg h6, if_neg h7, if_neg h8, if_neg h9, if_neg h10, if_neg h11]
  have Hc := Lib.hid hc
  obtain ⟨h0, h1, h2, h3, h4, h5, h6, h7, h8, h9, h10, h11⟩ := h
  have e0 : (nm == [97, 108, 112, 104, 97]) = false := by rw [beq_eq_false_iff_ne]; exact h0
  have e1 : (nm == [117, 112, 112, 101, 114]) = false := by rw [beq_eq_false_iff_ne]; exact h1
  have e2 : (nm == [108, 111, 119, 101, 114]) = false := by rw [beq_eq_false_iff_ne]; exact h2
  have e3 : (nm == [100, 105, 103, 105, 116]) = false := by rw [beq_eq_false_iff_ne]; exact h3
  have e4 : (nm == [97, 108, 110, 117, 109]) = false := by rw [beq_eq_false_iff_ne]; exact h4
  have e5 : (nm == [120, 100, 105, 103, 105, 116]) = false := by rw [beq_eq_false_iff_ne]; exact h5
  have e6 : (nm == [115, 112, 97, 99, 101]) = false := by rw [beq_eq_false_iff_ne]; exact h6
  have e7 : (nm == [98, 108, 97, 110, 107]) = false := by rw [beq_eq_false_iff_ne]; exact h7
  have e8 : (nm == [99, 110, 116, 114, 108]) = false := by rw [beq_eq_false_iff_ne]; exact h8
  have e9 : (nm == [103, 114, 97, 112, 104]) = false := by rw [beq_eq_false_iff_ne]; exact h9
  have e10 : (nm == [112, 114, 105, 110, 116]) = false := by rw [beq_eq_false_iff_ne]; exact h10
  have e11 : (nm == [112, 117, 110, 99, 116]) = false := by rw [beq_eq_false_iff_ne]; exact h11
  clear hc h0 h1 h2 h3 h4 h5 h6 h7 h8 h9 h10 h11
  go_enter Tryz.func166, Tryz.ntmps166
  go_upto_region 2 with fail
  generalize hW : (w.alloc _).alloc _ = W0
  have hr0 : SetAt W0 w.heap.size w40 := by subst hW; exact (SetAt.new w).later ((Below.refl _ _).alloc (Nat.le_refl _) _)
  have hn0 : SetAt W0 (w.heap.size + 1) w40 := by
    subst hW
    have := SetAt.new (w.alloc (.cells #[.int .u64 0, .int .u64 0, .int .u64 0, .int .u64 0] 28))
    simpa using this
  have hb0 : Below w.heap.size w W0 := by subst hW; exact ((Below.refl _ _).alloc (Nat.le_refl _) _).alloc (by simp) _
  clear hW
  obtain ⟨f0, f1, f2, f3⟩ := hn0.at4
  simp only [Nat.zero_add] at f1 f2 f3
  go_wp2_with fail
  refine (qspan_any W0 w40 65 90 (by omega) (by omega)).mono ?_
  rintro en w1 ⟨rfl, hb1⟩
  have hr1 := hr0.later hb1; have hn1 := hn0.later hb1; have hB1 := hb0.step hb1
  clear hr0 hn0 hb0 hb1 f0 f1 f2 f3
  go_wp2_with fail
  refine (qspan_any w1 (w40.span 65 26) 97 122 (by omega) (by omega)).mono ?_
  rintro en w2 ⟨rfl, hb2⟩
  have hr2 := hr1.later hb2; have hn2 := hn1.later hb2; have hB2 := hB1.step hb2
  clear hr1 hn1 hB1 hb2
  rw [show 122 + 1 - 97 = 26 from rfl]
  have hga : SetAt (w2.alloc (.cells #[.int .u64 ((w40.span 65 26).span 97 26).a, .int .u64 ((w40.span 65 26).span 97 26).b, .int .u64 ((w40.span 65 26).span 97 26).c, .int .u64 ((w40.span 65 26).span 97 26).d] 28)) w2.heap.size ((w40.span 65 26).span 97 26) := SetAt.box w2 _
  have Hga := Lib.hid hga
  clear hga
  generalize hA : ((w40.span 65 26).span 97 26) = TA at *
  have HA := Lib.hid hA
  clear hA
  go_upto_region 3 with fail
  generalize hW : w2.alloc _ = W3
  have hb3 : Below w2.heap.size w2 W3 := by subst hW; exact (Below.refl _ _).alloc (Nat.le_refl _) _
  have ha3 : SetAt W3 w2.heap.size TA := by subst hW; exact Hga.out
  clear hW Hga
  have hr3 := hr2.later hb3; have hn3 := hn2.later hb3; have hB3 := hB2.step hb3
  clear hr2 hn2 hB2 hb3
  obtain ⟨f0, f1, f2, f3⟩ := hn3.at4
  simp only [Nat.zero_add] at f1 f2 f3
  go_wp2_with fail
  refine (qspan_any W3 w40 48 57 (by omega) (by omega)).mono ?_
  rintro en w4 ⟨rfl, hb4⟩
  have hr4 := hr3.later hb4; have hn4 := hn3.later hb4; have hB4 := hB3.step hb4; have ha4 := ha3.later hb4
  clear hr3 hn3 hB3 hb4 ha3 f0 f1 f2 f3
  rw [show 57 + 1 - 48 = 10 from rfl]
  have hgd : SetAt (w4.alloc (.cells #[.int .u64 (w40.span 48 10).a, .int .u64 (w40.span 48 10).b, .int .u64 (w40.span 48 10).c, .int .u64 (w40.span 48 10).d] 28)) w4.heap.size (w40.span 48 10) := SetAt.box w4 _
  have Hgd := Lib.hid hgd
  clear hgd
  generalize hD : (w40.span 48 10) = TD at *
  have HD := Lib.hid hD
  clear hD
  go_upto_region 4 with fail
  generalize hW : w4.alloc _ = W5
  have hb5 : Below w4.heap.size w4 W5 := by subst hW; exact (Below.refl _ _).alloc (Nat.le_refl _) _
  have hd5 : SetAt W5 w4.heap.size TD := by subst hW; exact Hgd.out
  clear hW Hgd
  have hr5 := hr4.later hb5; have hn5 := hn4.later hb5; have hB5 := hB4.step hb5; have ha5 := ha4.later hb5
  clear hr4 hn4 hB4 hb5 ha4
  obtain ⟨n0, n1, n2, n3⟩ := hn5.at4
  obtain ⟨a0, a1, a2, a3⟩ := ha5.at4
  obtain ⟨d0, d1, d2, d3⟩ := hd5.at4
  simp only [Nat.zero_add] at n1 n2 n3 a1 a2 a3 d1 d2 d3
  obtain ⟨r0, r1, r2, r3⟩ := hr5.at4
  simp only [Nat.zero_add] at r1 r2 r3
  have y0 := hr5.froz 0; have y1 := hr5.froz 1; have y2 := hr5.froz 2; have y3 := hr5.froz 3
  have HR := Lib.hid hr5; have HB := Lib.hid hB5
  clear hr5 hB5
  go_wp2_with fail
  change bodyPost _ _ _ _ _ (setV W5 w.heap.size w40)
  obtain ⟨q0, q1, q2, q3⟩ := (HR.out.setV w40).at4
  simp only [Nat.zero_add] at q1 q2 q3
  have hB := HB.out.setV (b := w.heap.size) (Nat.le_refl _) w40
  clear r0 r1 r2 r3 y0 y1 y2 y3
  clear n0 n1 n2 n3 a0 a1 a2 a3 d0 d1 d2 d3
  generalize setV W5 w.heap.size w40 = WZ at *
  exact bodyPost_ret (v := .tuple #[w40.V, .bool false]) (by simp [results, Tryz.results166, go_sem, q0, q1, q2, q3]) rfl ⟨by rw [Hc.out], hB⟩
theorem class_is (w : World) (nm : Bs) : Calls Tryz.prog 166 #[.string (bs nm)] w fun en w' => en = .returned (.tuple #[(clsQ nm).1.V, .bool (clsQ nm).2]) ∧ Below w.heap.size w w' := by
  by_cases h0 : nm = [97, 108, 112, 104, 97]
  · subst h0; exact class_alpha w
  by_cases h1 : nm = [117, 112, 112, 101, 114]
  · subst h1; exact class_upper w
  by_cases h2 : nm = [108, 111, 119, 101, 114]
  · subst h2; exact class_lower w
  by_cases h3 : nm = [100, 105, 103, 105, 116]
  · subst h3; exact class_digit w
  by_cases h4 : nm = [97, 108, 110, 117, 109]
  · subst h4; exact class_alnum w
  by_cases h5 : nm = [120, 100, 105, 103, 105, 116]
  · subst h5; exact class_xdigit w
  by_cases h6 : nm = [115, 112, 97, 99, 101]
  · subst h6; exact class_space w
  by_cases h7 : nm = [98, 108, 97, 110, 107]
  · subst h7; exact class_blank w
  by_cases h8 : nm = [99, 110, 116, 114, 108]
  · subst h8; exact class_cntrl w
  by_cases h9 : nm = [103, 114, 97, 112, 104]
  · subst h9; exact class_graph w
  by_cases h10 : nm = [112, 114, 105, 110, 116]
  · subst h10; exact class_print w
  by_cases h11 : nm = [112, 117, 110, 99, 116]
  · subst h11; exact class_punct w
  exact class_none w nm ⟨h0, h1, h2, h3, h4, h5, h6, h7, h8, h9, h10, h11⟩
end Go.Proofs.YthlakbjnmbddaaaGreatDoor

/- vouchref10's Reader: named: walked. -/
set_option linter.unusedVariables false
set_option linter.unusedSimpArgs false
namespace Go.Proofs.YthlakbjnmbddaaaGreatDoor
open Go.RowKit

/-- What a step hands back that puts into a set. -/
def QSetR (p : Nat) (St : Bs) (op : Int) (f : Bs → Except Int (W4 × Bs)) (r : Bs) (w : World) (en : Ending) (w' : World) : Prop :=
  ∃ (T : W4) (k' : Nat) (s' : Rs), en = .returned T.V ∧ RQ w' p St k' op s' ∧ Off p w w' ∧ Out f (.ok r) (fun x => T = x) s'
theorem rq_below {w w' : World} {p : Nat} {S : Bs} {k : Nat} {op : Int} {s : Rs} (h : RQ w p S k op s) {B : Nat} (hb : Below B w w') (hp : p < B) : RQ w' p S k op s :=
  ⟨⟨(hb.cell (p := ⟨p, 0, none⟩) hp).trans h.rdr.c0, (hb.cell (p := ⟨p, 1, none⟩) hp).trans h.rdr.c1, (hb.cell (p := ⟨p, 2, none⟩) hp).trans h.rdr.c2, (hb.cell (p := ⟨p, 3, none⟩) hp).trans h.rdr.c3, fun o => (hb.frozen (p := ⟨p, o, none⟩) hp).trans (h.rdr.z o), Nat.lt_of_lt_of_le h.rdr.lt hb.size, h.rdr.le, h.rdr.top⟩, h.ok, h.ne⟩
theorem RQ.put {w : World} {p : Nat} {S : Bs} {k : Nat} {op : Int} {s : Rs} (h : RQ w p S k op s) {b : Nat} (hb : p < b) (o : Nat) (v : Value) : RQ (w.setCell ⟨b, o, none⟩ v) p S k op s := rq_below h ((Below.refl b w).setCell (p := ⟨b, o, none⟩) (Nat.le_refl _) v) hb
theorem RQ.fillV {w : World} {p : Nat} {S : Bs} {k : Nat} {op : Int} {s : Rs} (h : RQ w p S k op s) {b : Nat} (hb : p < b) (T : W4) : RQ (setV w b T) p S k op s := rq_below h ((Below.refl b w).setV (Nat.le_refl _) T) hb
theorem Off.box {p : Nat} {w w1 : World} (h : Off p w w1) {b : Nat} (hb : w.heap.size ≤ b) (o : Nat) (v : Value) : Off p w (w1.setCell ⟨b, o, none⟩ v) := h.far hb rfl rfl rfl (by simp) (fun k hk => Below.heap_setCell _ _ _ _ hk)
/-- The reader put at another place: what stands there, or an error. -/
theorem RQ.goto {w : World} {p : Nat} {S : Bs} {k : Nat} {op : Int} {s : Rs} (h : RQ w p S k op s) (k' : Nat) (hk : k' ≤ S.length) (hok : ∀ r, s = .ok r → False) : RQ (w.setCell ⟨p, 1, none⟩ (.int .i64 (k' : Int))) p S k' op s :=
  ⟨h.rdr.set1 hk, fun r he => (hok r he).elim, h.ne⟩
theorem RQ.goon' {w : World} {p : Nat} {S : Bs} {k : Nat} {op : Int} {r : Bs} (h : RQ w p S k op (.ok r)) (k' : Nat) (hk : k' ≤ S.length) (r' : Bs) (hr : r' = S.drop k') : RQ (w.setCell ⟨p, 1, none⟩ (.int .i64 (k' : Int))) p S k' op (.ok r') :=
  ⟨h.rdr.set1 hk, fun r he => by cases he; exact hr, fun e he => by cases he⟩
def addPre (a : Bs) (x : Option (Bs × Bs)) : Option (Bs × Bs) := match x with | some (u, v) => some (a ++ u, v) | none => none
theorem cut_cons (c : UInt8) (t : Bs) (h : takeP [58, 93] (c :: t) = none) : cutP (c :: t) = addPre [c] (cutP t) := by
  rw [cutP, h]
  simp only [addPre]
  cases cutP t with
  | none => rfl
  | some x => rfl
theorem addPre_add (a b : Bs) (x : Option (Bs × Bs)) : addPre a (addPre b x) = addPre (a ++ b) x := by
  cases x with
  | none => rfl
  | some x => simp [addPre]
theorem take_sign (c d : UInt8) (t : Bs) : takeP [58, 93] (c :: d :: t) = if c = 58 ∧ d = 93 then some t else none := by
  rw [takeP_cons]
  by_cases h : c = 58
  · subst h
    rw [if_pos rfl, takeP_one]
    by_cases h2 : d = 93
    · subst h2; simp
    · rw [if_neg (fun h => h2 h.symm), if_neg (fun h => h2 h.2)]
  · rw [if_neg (fun h' => h h'.symm), if_neg (fun h' => h h'.1)]
theorem cut_short (r : Bs) (h : r.length < 2) : cutP r = none := by
  match r, h with
  | [], _ => rfl
  | [c], _ =>
    rw [cut_cons]
    · rfl
    · rw [takeP_cons]
      split
      · exact takeP_nil _ (by simp)
      · rfl
set_option maxRecDepth 100000 in
set_option maxHeartbeats 8000000 in
theorem qnamed_any (w : World) (p : Nat) (St : Bs) (k : Nat) (op : Int) (a0 b0 : UInt8) (r : Bs) (Z : W4) (h : RQ w p St k op (.ok (a0 :: b0 :: r))) :
    Calls Tryz.prog 159 #[.pointer (some ⟨p, 0, none⟩), Z.V] w fun en w' => QSetR p St op (classP Z) r w en w' := by
  have hl := h.len
  have hp := h.lt
  have H := Lib.hid h
  have sS := bsq_size St
  have hkb : k ≤ 1024 := Nat.le_trans h.rdr.le h.rdr.top
  have hlb : St.length ≤ 1024 := h.rdr.top
  simp only [List.length_cons] at hl
  have hdrop := h.ok _ rfl
  have Hdr := Lib.hid (show r = St.drop (k + 2) by rw [← List.drop_drop, ← hdrop]; rfl)
  have Hl := Lib.hid hl
  clear h hdrop hl
  go_enter Tryz.func159, Tryz.ntmps159
  go_upto_region 1 with fail
  generalize hW : (w.alloc _).alloc _ = W0
  have hs0 : SetAt W0 w.heap.size Z := by subst hW; exact (SetAt.box w Z).later ((Below.refl _ _).alloc (Nat.le_refl _) _)
  have hr0 : SetAt W0 (w.heap.size + 1) w40 := by
    subst hW
    have := SetAt.new (w.alloc (.cells #[.int .u64 Z.a, .int .u64 Z.b, .int .u64 Z.c, .int .u64 Z.d] 28))
    simpa using this
  have hb0 : Below w.heap.size w W0 := by subst hW; exact ((Below.refl _ _).alloc (Nat.le_refl _) _).alloc (by simp) _
  clear hW
  have hz1 := hr0.lt
  have h0 := H.out.later hb0
  have c0 := h0.rdr.c0
  have c1 := h0.rdr.c1
  have H0 := Lib.hid h0; have HS0 := Lib.hid hs0; have HR0 := Lib.hid hr0; have HO0 := Lib.hid (Off.of_below (p := p) hb0)
  clear H h0 hs0 hr0 hb0
  have hbw : w.heap.size ≤ w.heap.size := Nat.le_refl _
  obtain ⟨b, hb⟩ : ∃ b, b = w.heap.size := ⟨_, rfl⟩
  rw [← hb] at hz1 hp
  rw [← hb]
  have HS0 := Lib.hid (show SetAt W0 b Z by rw [hb]; exact HS0.out)
  have HR0 := Lib.hid (show SetAt W0 (b + 1) w40 by rw [hb]; exact HR0.out)
  have hbw : w.heap.size ≤ b := by omega
  clear hb
  go_wp2_with fail
  go_loopg [6] (r.length + 1) (fun n i wr => ∃ (j m : Nat), i = .int .i64 m ∧ W0 = wr ∧ m = k + 2 + j ∧ j ≤ r.length ∧ n + j = r.length + 1 ∧ cutP r = addPre (r.take j) (cutP (r.drop j)))
  case atStart => exact ⟨0, k + 2, by go_num, rfl, by omega, by omega, by omega, by simp only [List.take_zero, List.drop_zero]; cases cutP r <;> rfl⟩
  case round =>
    obtain ⟨j, m, rfl, rfl, hm, hj, hn, hcut⟩ := hrel
    have Hcut := Lib.hid hcut
    clear hcut
    by_cases hlt : m + 2 ≤ St.length
    · have hlI : (m : Int) + 2 ≤ (St.length : Int) := by omega
      have hlI2 : decide ((St.length : Int) < (m : Int) + 2) = false := by rw [decide_eq_false_iff_not]; omega
      obtain ⟨c, d, t, hd⟩ : ∃ c d t, r.drop j = c :: d :: t := by
        have hh : 2 ≤ (r.drop j).length := by have := Hl.out; rw [List.length_drop]; omega
        match hq : r.drop j, hh with
        | c :: d :: t, _ => exact ⟨c, d, t, rfl⟩
      have hdm : St.drop m = c :: d :: t := by rw [← hd, Hdr.out, List.drop_drop, hm]
      have hsl : ∀ w, (Instr.slice 9 (.string (bs St)) (some (.int .i64 (m : Int))) (some (.int .i64 ((m : Int) + 2))) none).run Tryz.prog w = .ok (.string (bs [c, d])) w := fun w => by
        have := qrun_cut St m 2 hlt w
        rw [hdm] at this
        exact this
      have Hd := Lib.hid hd; have Hdm := Lib.hid hdm
      clear hd hdm
      by_cases hcd : c = 58 ∧ d = 93
      · obtain ⟨rfl, rfl⟩ := hcd
        have hne : (([58, 93] : Bs) != [58, 93]) = false := by simp
        have hcr : cutP r = some (r.take j, t) := by
          rw [Hcut.out, Hd.out, cutP, take_sign, if_pos ⟨rfl, rfl⟩]
          simp [addPre]
        have hcls : classP Z r = match classW (r.take j) with | none => .error 103 | some x => .ok (Z.or x, t) := by simp only [classP, hcr]; rfl
        have Hcls := Lib.hid hcls
        have hcut2 : ∀ w, (Instr.slice 9 (.string (bs St)) (some (.int .i64 ((k : Int) + 2))) (some (.int .i64 (m : Int))) none).run Tryz.prog w = .ok (.string (bs (r.take j))) w := fun w => by
          have := qrun_cut St (k + 2) j (by omega) w
          rw [← Hdr.out, show ((k + 2 : Nat) : Int) + (j : Int) = (m : Int) by omega, show ((k + 2 : Nat) : Int) = (k : Int) + 2 by omega] at this
          exact this
        have hRt := Lib.hid (show t = St.drop (m + 2) by rw [← List.drop_drop, Hdm.out]; rfl)
        have hmk : k + 2 ≤ m := by omega
        have Hm := Lib.hid hm
        clear hcr hcls Hcut hm
        go_wp2_with fail
        refine (class_is W0 (r.take j)).mono ?_
        rintro en w2 ⟨rfl, hb2⟩
        have h2 := H0.out.later hb2
        have hO2 := HO0.out.trans (Off.of_below (p := p) hb2)
        have hS2 := HS0.out.later hb2
        have hR2 := HR0.out.later hb2
        have hz2 := hR2.lt
        generalize hq : clsQ (r.take j) = q
        obtain ⟨X, ok⟩ := q
        simp only
        have HQ := Lib.hid hq
        clear hq
        have H2 := Lib.hid h2; have HO2 := Lib.hid hO2; have HS2 := Lib.hid hS2; have HR2 := Lib.hid hR2
        clear h2 hO2 hS2 hR2 hb2 H0 HO0 HS0 HR0 c0 c1
        go_upto_region 9 with fail
        generalize hW : w2.alloc _ = W3
        have hX3 : SetAt W3 w2.heap.size X := by subst hW; exact SetAt.box w2 X
        have hb3 : Below w2.heap.size w2 W3 := by subst hW; exact (Below.refl _ _).alloc (Nat.le_refl _) _
        clear hW
        have HX3 := Lib.hid hX3
        have H3 := Lib.hid (H2.out.later hb3)
        have HO3 := Lib.hid (HO2.out.trans (Off.of_below (p := p) hb3))
        have HS3 := Lib.hid (HS2.out.later hb3)
        have HR3 := Lib.hid (HR2.out.later hb3)
        have hb71 : b + 1 < w2.heap.size := hz2
        clear hX3 hb3 H2 HO2 HS2 HR2 hz2
        generalize w2.heap.size = b7 at *
        obtain ⟨xa, xb, xc, xd⟩ := X
        cases ok with
        | false =>
          have HQ2 := Lib.hid (show classP Z r = .error 103 by
            rw [Hcls.out]
            have := HQ.out
            unfold clsQ at this
            split at this
            · cases this
            · rename_i hh; rw [hh])
          clear Hcls HQ
          go_wp2_with fail
          refine (qfail_ok 103 (by omega) H3.out).mono ?_
          rintro en w4 ⟨rfl, h4, hO4⟩
          have HX4 := Lib.hid (HX3.out.off hO4 (by omega))
          have HS4 := Lib.hid (HS3.out.off hO4 (by omega))
          have HR4 := Lib.hid (HR3.out.off hO4 (by omega))
          have HO4 := Lib.hid (HO3.out.trans hO4)
          have H4 := Lib.hid h4
          clear HX3 HS3 HR3 HO3 H3 h4 hO4
          have c1 := H4.out.rdr.c1
          have y1 := H4.out.rdr.z 1
          go_upto_region 12 with fail
          have h6 := H4.out.goto (m + 2) (by omega) (fun r he => by cases he)
          rw [show ((m + 2 : Nat) : Int) = (m : Int) + 2 by omega] at h6
          have hO6 := HO4.out.set 1 (.int .i64 ((m : Int) + 2))
          have HX6 := Lib.hid (HX4.out.other (b' := p) (by omega) 1 (.int .i64 ((m : Int) + 2)))
          have HA6 := Lib.hid (HS4.out.other (b' := p) (by omega) 1 (.int .i64 ((m : Int) + 2)))
          have HZ6 := Lib.hid (HR4.out.other (b' := p) (by omega) 1 (.int .i64 ((m : Int) + 2)))
          have HR6 := Lib.hid h6; have HO6 := Lib.hid hO6
          have HOut := Lib.hid (show Out (classP Z) (.ok r) (fun x => Z.or ⟨xa, xb, xc, xd⟩ = x) (.error 103) from Out.bad HQ2.out)
          clear h6 hO6 HX4 HS4 HR4 HO4 H4 c1 y1 HQ2
          generalize (Except.error 103 : Rs) = s6 at *
          generalize w4.setCell _ _ = W6 at *
          obtain ⟨k6, hk6⟩ : ∃ k6, k6 = m + 2 := ⟨_, rfl⟩
          rw [← hk6] at HR6
          clear hk6
          go_wp2_with fail
          go_loopg [9] 4 (fun gk i wr => ∃ j : Nat, i = .int .i64 j ∧ j + gk = 4 ∧ RQ wr p St k6 op s6 ∧ SetAt wr b (Z.orTo ⟨xa, xb, xc, xd⟩ j) ∧ SetAt wr b7 ⟨xa, xb, xc, xd⟩ ∧ SetAt wr (b + 1) w40 ∧ Off p w wr)
          case atStart => exact ⟨0, rfl, rfl, HR6.out, by rw [orTo_0]; exact HA6.out, HX6.out, HZ6.out, HO6.out⟩
          case round =>
            obtain ⟨j, rfl, hj, hR, hS, hX, hZ, hO⟩ := hrel
            have HR := Lib.hid hR; have HSr := Lib.hid hS; have HXr := Lib.hid hX; have HZr := Lib.hid hZ; have HOr := Lib.hid hO
            have z0 := hS.froz 0; have z1 := hS.froz 1; have z2 := hS.froz 2; have z3 := hS.froz 3
            obtain ⟨f0, f1, f2, f3⟩ := hS.at4
            obtain ⟨x0, x1, x2, x3⟩ := hX.at4
            simp only [Nat.zero_add] at f1 f2 f3 x1 x2 x3
            clear hR hS hX hZ hO HR6 HA6 HX6 HZ6 HO6
            rcases (show j = 0 ∨ j = 1 ∨ j = 2 ∨ j = 3 ∨ j = 4 by omega) with rfl | rfl | rfl | rfl | rfl
            · simp [W4.orTo] at f0
              go_wp2_with fail
              go_region
              all_goals
                go_wp2_with fail
                go_roundg (gk - 1)
                case measure => omega
                case rel => exact ⟨1, by go_num, by omega, ((HR.out.put hp 0 _).drew), SetAt.drew (by have h1 := HSr.out.put 0 (by omega) (bits .or .u64 Z.a xa); rw [orTo_put Z ⟨xa, xb, xc, xd⟩ 0 (by omega) (bits .or .u64 Z.a xa) rfl] at h1; exact h1), SetAt.drew (HXr.out.other (by omega) _ _), SetAt.drew (HZr.out.other (by omega) _ _), (HOr.out.box hbw _ _).drew⟩
            · simp [W4.orTo] at f1
              go_wp2_with fail
              go_region
              all_goals
                go_wp2_with fail
                go_roundg (gk - 1)
                case measure => omega
                case rel => exact ⟨2, by go_num, by omega, ((HR.out.put hp 1 _).drew), SetAt.drew (by have h1 := HSr.out.put 1 (by omega) (bits .or .u64 Z.b xb); rw [orTo_put Z ⟨xa, xb, xc, xd⟩ 1 (by omega) (bits .or .u64 Z.b xb) rfl] at h1; exact h1), SetAt.drew (HXr.out.other (by omega) _ _), SetAt.drew (HZr.out.other (by omega) _ _), (HOr.out.box hbw _ _).drew⟩
            · simp [W4.orTo] at f2
              go_wp2_with fail
              go_region
              all_goals
                go_wp2_with fail
                go_roundg (gk - 1)
                case measure => omega
                case rel => exact ⟨3, by go_num, by omega, ((HR.out.put hp 2 _).drew), SetAt.drew (by have h1 := HSr.out.put 2 (by omega) (bits .or .u64 Z.c xc); rw [orTo_put Z ⟨xa, xb, xc, xd⟩ 2 (by omega) (bits .or .u64 Z.c xc) rfl] at h1; exact h1), SetAt.drew (HXr.out.other (by omega) _ _), SetAt.drew (HZr.out.other (by omega) _ _), (HOr.out.box hbw _ _).drew⟩
            · simp [W4.orTo] at f3
              go_wp2_with fail
              go_region
              all_goals
                go_wp2_with fail
                go_roundg (gk - 1)
                case measure => omega
                case rel => exact ⟨4, by go_num, by omega, ((HR.out.put hp 3 _).drew), SetAt.drew (by have h1 := HSr.out.put 3 (by omega) (bits .or .u64 Z.d xd); rw [orTo_put Z ⟨xa, xb, xc, xd⟩ 3 (by omega) (bits .or .u64 Z.d xd) rfl] at h1; exact h1), SetAt.drew (HXr.out.other (by omega) _ _), SetAt.drew (HZr.out.other (by omega) _ _), (HOr.out.box hbw _ _).drew⟩
            · have HSo := Lib.hid (show SetAt wr b (Z.or ⟨xa, xb, xc, xd⟩) by rw [← orTo_all]; exact HSr.out)
              clear z0 z1 z2 z3 f0 f1 f2 f3 x0 x1 x2 x3 HSr
              generalize hT : Z.or ⟨xa, xb, xc, xd⟩ = TT at *
              have HT := Lib.hid hT
              clear hT
              obtain ⟨f0, f1, f2, f3⟩ := HSo.out.at4
              obtain ⟨g0, g1, g2, g3⟩ := HZr.out.at4
              simp only [Nat.zero_add] at f1 f2 f3 g1 g2 g3
              have y0 := HZr.out.froz 0; have y1 := HZr.out.froz 1; have y2 := HZr.out.froz 2; have y3 := HZr.out.froz 3
              go_wp2_with fail
              change bodyPost _ _ _ _ _ (setV wr (b + 1) TT)
              obtain ⟨q0, q1, q2, q3⟩ := (HZr.out.setV TT).at4
              simp only [Nat.zero_add] at q1 q2 q3
              have hRV : RQ (setV wr (b + 1) TT) p St k6 op s6 := HR.out.fillV (by omega) TT
              have hOV : Off p w (setV wr (b + 1) TT) := Off.setV HOr.out (b := b + 1) (by omega) TT
              clear f0 f1 f2 f3 g0 g1 g2 g3 y0 y1 y2 y3
              generalize setV wr (b + 1) TT = WZ at *
              exact bodyPost_ret (v := TT.V) (by simp [results, Tryz.results159, go_sem, q0, q1, q2, q3]) rfl ⟨TT, k6, s6, rfl, hRV, hOV, by first | exact HOut.out | (rw [← HT.out]; exact HOut.out)⟩
        | true =>
          have HQ2 := Lib.hid (show classP Z r = .ok (Z.or ⟨xa, xb, xc, xd⟩, t) by
            rw [Hcls.out]
            have := HQ.out
            unfold clsQ at this
            split at this
            · rename_i hh; cases this; rw [hh]
            · cases this)
          clear Hcls HQ
          have c1 := H3.out.rdr.c1
          have y1 := H3.out.rdr.z 1
          go_upto_region 12 with fail
          have h6 := (H3.out.goon' (m + 2) (by omega) t hRt.out)
          rw [show ((m + 2 : Nat) : Int) = (m : Int) + 2 by omega] at h6
          have hO6 := HO3.out.set 1 (.int .i64 ((m : Int) + 2))
          have HX6 := Lib.hid (HX3.out.other (b' := p) (by omega) 1 (.int .i64 ((m : Int) + 2)))
          have HA6 := Lib.hid (HS3.out.other (b' := p) (by omega) 1 (.int .i64 ((m : Int) + 2)))
          have HZ6 := Lib.hid (HR3.out.other (b' := p) (by omega) 1 (.int .i64 ((m : Int) + 2)))
          have HR6 := Lib.hid h6; have HO6 := Lib.hid hO6
          have HOut := Lib.hid (show Out (classP Z) (.ok r) (fun x => Z.or ⟨xa, xb, xc, xd⟩ = x) (.ok t) from Out.good HQ2.out rfl)
          clear h6 hO6 HX3 HS3 HR3 HO3 H3 c1 y1 HQ2
          generalize (Except.ok t : Rs) = s6 at *
          generalize W3.setCell _ _ = W6 at *
          obtain ⟨k6, hk6⟩ : ∃ k6, k6 = m + 2 := ⟨_, rfl⟩
          rw [← hk6] at HR6
          clear hk6
          go_wp2_with fail
          go_loopg [9] 4 (fun gk i wr => ∃ j : Nat, i = .int .i64 j ∧ j + gk = 4 ∧ RQ wr p St k6 op s6 ∧ SetAt wr b (Z.orTo ⟨xa, xb, xc, xd⟩ j) ∧ SetAt wr b7 ⟨xa, xb, xc, xd⟩ ∧ SetAt wr (b + 1) w40 ∧ Off p w wr)
          case atStart => exact ⟨0, rfl, rfl, HR6.out, by rw [orTo_0]; exact HA6.out, HX6.out, HZ6.out, HO6.out⟩
          case round =>
            obtain ⟨j, rfl, hj, hR, hS, hX, hZ, hO⟩ := hrel
            have HR := Lib.hid hR; have HSr := Lib.hid hS; have HXr := Lib.hid hX; have HZr := Lib.hid hZ; have HOr := Lib.hid hO
            have z0 := hS.froz 0; have z1 := hS.froz 1; have z2 := hS.froz 2; have z3 := hS.froz 3
            obtain ⟨f0, f1, f2, f3⟩ := hS.at4
            obtain ⟨x0, x1, x2, x3⟩ := hX.at4
            simp only [Nat.zero_add] at f1 f2 f3 x1 x2 x3
            clear hR hS hX hZ hO HR6 HA6 HX6 HZ6 HO6
            rcases (show j = 0 ∨ j = 1 ∨ j = 2 ∨ j = 3 ∨ j = 4 by omega) with rfl | rfl | rfl | rfl | rfl
            · simp [W4.orTo] at f0
              go_wp2_with fail
              go_region
              all_goals
                go_wp2_with fail
                go_roundg (gk - 1)
                case measure => omega
                case rel => exact ⟨1, by go_num, by omega, ((HR.out.put hp 0 _).drew), SetAt.drew (by have h1 := HSr.out.put 0 (by omega) (bits .or .u64 Z.a xa); rw [orTo_put Z ⟨xa, xb, xc, xd⟩ 0 (by omega) (bits .or .u64 Z.a xa) rfl] at h1; exact h1), SetAt.drew (HXr.out.other (by omega) _ _), SetAt.drew (HZr.out.other (by omega) _ _), (HOr.out.box hbw _ _).drew⟩
            · simp [W4.orTo] at f1
              go_wp2_with fail
              go_region
              all_goals
                go_wp2_with fail
                go_roundg (gk - 1)
                case measure => omega
                case rel => exact ⟨2, by go_num, by omega, ((HR.out.put hp 1 _).drew), SetAt.drew (by have h1 := HSr.out.put 1 (by omega) (bits .or .u64 Z.b xb); rw [orTo_put Z ⟨xa, xb, xc, xd⟩ 1 (by omega) (bits .or .u64 Z.b xb) rfl] at h1; exact h1), SetAt.drew (HXr.out.other (by omega) _ _), SetAt.drew (HZr.out.other (by omega) _ _), (HOr.out.box hbw _ _).drew⟩
            · simp [W4.orTo] at f2
              go_wp2_with fail
              go_region
              all_goals
                go_wp2_with fail
                go_roundg (gk - 1)
                case measure => omega
                case rel => exact ⟨3, by go_num, by omega, ((HR.out.put hp 2 _).drew), SetAt.drew (by have h1 := HSr.out.put 2 (by omega) (bits .or .u64 Z.c xc); rw [orTo_put Z ⟨xa, xb, xc, xd⟩ 2 (by omega) (bits .or .u64 Z.c xc) rfl] at h1; exact h1), SetAt.drew (HXr.out.other (by omega) _ _), SetAt.drew (HZr.out.other (by omega) _ _), (HOr.out.box hbw _ _).drew⟩
            · simp [W4.orTo] at f3
              go_wp2_with fail
              go_region
              all_goals
                go_wp2_with fail
                go_roundg (gk - 1)
                case measure => omega
                case rel => exact ⟨4, by go_num, by omega, ((HR.out.put hp 3 _).drew), SetAt.drew (by have h1 := HSr.out.put 3 (by omega) (bits .or .u64 Z.d xd); rw [orTo_put Z ⟨xa, xb, xc, xd⟩ 3 (by omega) (bits .or .u64 Z.d xd) rfl] at h1; exact h1), SetAt.drew (HXr.out.other (by omega) _ _), SetAt.drew (HZr.out.other (by omega) _ _), (HOr.out.box hbw _ _).drew⟩
            · have HSo := Lib.hid (show SetAt wr b (Z.or ⟨xa, xb, xc, xd⟩) by rw [← orTo_all]; exact HSr.out)
              clear z0 z1 z2 z3 f0 f1 f2 f3 x0 x1 x2 x3 HSr
              generalize hT : Z.or ⟨xa, xb, xc, xd⟩ = TT at *
              have HT := Lib.hid hT
              clear hT
              obtain ⟨f0, f1, f2, f3⟩ := HSo.out.at4
              obtain ⟨g0, g1, g2, g3⟩ := HZr.out.at4
              simp only [Nat.zero_add] at f1 f2 f3 g1 g2 g3
              have y0 := HZr.out.froz 0; have y1 := HZr.out.froz 1; have y2 := HZr.out.froz 2; have y3 := HZr.out.froz 3
              go_wp2_with fail
              change bodyPost _ _ _ _ _ (setV wr (b + 1) TT)
              obtain ⟨q0, q1, q2, q3⟩ := (HZr.out.setV TT).at4
              simp only [Nat.zero_add] at q1 q2 q3
              have hRV : RQ (setV wr (b + 1) TT) p St k6 op s6 := HR.out.fillV (by omega) TT
              have hOV : Off p w (setV wr (b + 1) TT) := Off.setV HOr.out (b := b + 1) (by omega) TT
              clear f0 f1 f2 f3 g0 g1 g2 g3 y0 y1 y2 y3
              generalize setV wr (b + 1) TT = WZ at *
              exact bodyPost_ret (v := TT.V) (by simp [results, Tryz.results159, go_sem, q0, q1, q2, q3]) rfl ⟨TT, k6, s6, rfl, hRV, hOV, by first | exact HOut.out | (rw [← HT.out]; exact HOut.out)⟩
      · have hne : (([c, d] : Bs) != [58, 93]) = true := by
          rw [bne_iff_ne]; intro h; simp at h; exact hcd h
        have hne2 : ((!c == 58) || (!d == 93)) = true := by
          rw [Bool.or_eq_true, Bool.not_eq_true', Bool.not_eq_true', beq_eq_false_iff_ne, beq_eq_false_iff_ne]
          by_cases h : c = 58
          · exact .inr (fun h2 => hcd ⟨h, h2⟩)
          · exact .inl h
        have Hst := Lib.hid (show cutP r = addPre (r.take (j + 1)) (cutP (r.drop (j + 1))) by
          rw [Hcut.out, Hd.out, cut_cons _ _ (by rw [take_sign, if_neg hcd]), addPre_add]
          have hj1 : j < r.length := by
            have h1 := congrArg List.length Hd.out
            simp only [List.length_drop, List.length_cons] at h1
            omega
          rw [show r.drop (j + 1) = d :: t by rw [← List.drop_drop, Hd.out]; rfl]
          congr 1
          have h3 : r[j] = c := by
            have := List.drop_eq_getElem_cons hj1
            rw [Hd.out] at this
            simp only [List.cons.injEq] at this
            exact this.1.symm
          rw [List.take_succ_eq_append_getElem hj1, h3])
        have Hm := Lib.hid hm
        have hjl : j < r.length := by have := Hl.out; omega
        clear hm Hcut
        go_wp2_with fail
        go_roundg (gk - 1)
        case measure => omega
        case rel => exact ⟨j + 1, m + 1, by go_num, rfl, by have := Hm.out; omega, by omega, by omega, Hst.out⟩
    · have hlI : (St.length : Int) < (m : Int) + 2 := by omega
      have hnone : cutP r = none := by
        rw [Hcut.out, cut_short _ (by rw [List.length_drop]; have := Hl.out; omega)]; rfl
      have Hs := Lib.hid (show classP Z r = .error 101 by simp only [classP, hnone])
      have hmb : m ≤ 2000 := by have := Hl.out; omega
      clear hnone hm Hcut
      go_wp2_with fail
      refine (qfail_ok 101 (by omega) H0.out).mono ?_
      rintro en w4 ⟨rfl, h4, hO4⟩
      have HSo := Lib.hid (HS0.out.off hO4 (by omega))
      have HZr := Lib.hid (HR0.out.off hO4 (by omega))
      have HO4 := Lib.hid (HO0.out.trans hO4)
      have H4 := Lib.hid h4
      clear HS0 HR0 HO0 H0 h4 hO4
      obtain ⟨f0, f1, f2, f3⟩ := HSo.out.at4
      obtain ⟨g0, g1, g2, g3⟩ := HZr.out.at4
      simp only [Nat.zero_add] at f1 f2 f3 g1 g2 g3
      have y0 := HZr.out.froz 0; have y1 := HZr.out.froz 1; have y2 := HZr.out.froz 2; have y3 := HZr.out.froz 3
      go_wp2_with fail
      change bodyPost _ _ _ _ _ (setV w4 (b + 1) Z)
      obtain ⟨q0, q1, q2, q3⟩ := (HZr.out.setV Z).at4
      simp only [Nat.zero_add] at q1 q2 q3
      have hRV : RQ (setV w4 (b + 1) Z) p St k op (.error 101) := H4.out.fillV (by omega) Z
      have hOV : Off p w (setV w4 (b + 1) Z) := Off.setV HO4.out (b := b + 1) (by omega) Z
      clear f0 f1 f2 f3 g0 g1 g2 g3 y0 y1 y2 y3
      generalize setV w4 (b + 1) Z = WZ at *
      exact bodyPost_ret (v := Z.V) (by simp [results, Tryz.results159, go_sem, q0, q1, q2, q3]) rfl ⟨Z, k, _, rfl, hRV, hOV, Out.bad Hs.out⟩
end Go.Proofs.YthlakbjnmbddaaaGreatDoor

/- vouchref10's Reader: item: walked. -/
set_option linter.unusedVariables false
set_option linter.unusedSimpArgs false
namespace Go.Proofs.YthlakbjnmbddaaaGreatDoor
open Go.RowKit

theorem qis_hit {w : World} {p : Nat} {S : Bs} {k : Nat} {op : Int} {r r' : Bs} (q : Bs) (hq : q.length ≤ 100) (ht : takeP q r = some r') (h : RQ w p S k op (.ok r)) :
    Calls Tryz.prog 102 #[.pointer (some ⟨p, 0, none⟩), .string (bs q)] w fun en w' => en = .returned (.bool true) ∧ RQ w' p S k op (.ok r) ∧ Off p w w' := by
  have := is_q q hq h
  rwa [takeS_some ht] at this
theorem qis_miss {w : World} {p : Nat} {S : Bs} {k : Nat} {op : Int} {r : Bs} (q : Bs) (hq : q.length ≤ 100) (ht : takeP q r = none) (h : RQ w p S k op (.ok r)) :
    Calls Tryz.prog 102 #[.pointer (some ⟨p, 0, none⟩), .string (bs q)] w fun en w' => en = .returned (.bool false) ∧ RQ w' p S k op (.ok r) ∧ Off p w w' := by
  have := is_q q hq h
  rwa [takeS_none ht] at this
theorem qis_err {w : World} {p : Nat} {S : Bs} {k : Nat} {op : Int} {e : Int} (q : Bs) (hq : q.length ≤ 100) (h : RQ w p S k op (.error e)) :
    Calls Tryz.prog 102 #[.pointer (some ⟨p, 0, none⟩), .string (bs q)] w fun en w' => en = .returned (.bool false) ∧ RQ w' p S k op (.error e) ∧ Off p w w' := is_q q hq h
theorem take_two_eq {a b : UInt8} {r r1 : Bs} (h : takeP [a, b] r = some r1) : r = a :: b :: r1 := by
  match r with
  | [] => rw [takeP_nil _ (by simp)] at h; cases h
  | [c] =>
    rw [takeP_cons] at h
    split at h
    · rw [takeP_nil _ (by simp)] at h; cases h
    · cases h
  | c :: d :: t =>
    rw [takeP_cons] at h
    split at h
    · rename_i h1
      rw [takeP_one] at h
      split at h
      · rename_i h2; cases h; rw [h1, h2]
      · cases h
    · cases h
theorem memberQ_false (r : Bs) : memberQ false r = memberP r := by unfold memberQ; rw [if_neg (by simp)]
theorem takeS_isSome (q r : Bs) : (takeS q (.ok r)).1 = (takeP q r).isSome := by
  cases h : takeP q r with
  | none => rw [takeS_none h]; rfl
  | some r' => rw [takeS_some h]; rfl
theorem range_q (s : W4) (c : Nat) (r r1 : Bs) (h1 : takeP [45] r = some r1) (h2 : takeP [45, 93] r = none) :
    rangeP s c r = match memberQ true r1 with | .error e => .error e | .ok (t, r2) => if t < c then .error 102 else .ok (s.span c (t + 1 - c), r2) := by
  unfold rangeP memberQ
  simp only [h1, h2, takeS_isSome, Bool.true_and]
  split
  · rfl
  · cases memberP r1 with
    | error e => rfl
    | ok x => rfl
theorem range_one (s : W4) (c : Nat) (r : Bs) (h : takeP [45] r = none ∨ ∃ r2, takeP [45, 93] r = some r2) : rangeP s c r = .ok (s.add c, r) := by
  unfold rangeP
  rcases h with h | ⟨r2, h⟩
  · rw [h]
  · rw [h]; cases takeP [45] r <;> rfl
set_option maxRecDepth 100000 in
set_option maxHeartbeats 8000000 in
theorem qitem_any (w : World) (p : Nat) (St : Bs) (k : Nat) (op : Int) (r : Bs) (Z : W4) (h : RQ w p St k op (.ok r)) :
    Calls Tryz.prog 148 #[.pointer (some ⟨p, 0, none⟩), Z.V] w fun en w' => QSetR p St op (itemP Z) r w en w' := by
  have hp := h.lt
  have H := Lib.hid h
  have hkb : k ≤ 1024 := Nat.le_trans h.rdr.le h.rdr.top
  clear h
  go_enter Tryz.func148, Tryz.ntmps148
  go_upto_region 1 with fail
  generalize hW : (w.alloc _).alloc _ = W0
  have hs0 : SetAt W0 w.heap.size Z := by subst hW; exact (SetAt.box w Z).later ((Below.refl _ _).alloc (Nat.le_refl _) _)
  have hr0 : SetAt W0 (w.heap.size + 1) w40 := by
    subst hW
    have := SetAt.new (w.alloc (.cells #[.int .u64 Z.a, .int .u64 Z.b, .int .u64 Z.c, .int .u64 Z.d] 28))
    simpa using this
  have hb0 : Below w.heap.size w W0 := by subst hW; exact ((Below.refl _ _).alloc (Nat.le_refl _) _).alloc (by simp) _
  clear hW
  have HRr := Lib.hid (H.out.later hb0); have HOr := Lib.hid (Off.of_below (p := p) hb0)
  clear H hb0
  obtain ⟨b, hb⟩ : ∃ b, b = w.heap.size := ⟨_, rfl⟩
  rw [← hb] at hs0 hr0 hp
  rw [← hb]
  have HA := Lib.hid hs0; have HZr := Lib.hid hr0
  have hbw : w.heap.size ≤ b := by omega
  clear hs0 hr0 hb
  cases ht : takeP [91, 58] r with
  | some r1 =>
    have Hi := Lib.hid (show itemP Z r = classP Z r1 by simp only [itemP, ht])
    have Ht := Lib.hid ht; clear ht
    go_wp2_with fail
    refine (qis_hit [91, 58] (by simp) Ht.out HRr.out).mono ?_
    rintro en w1 ⟨rfl, hR, hO⟩
    have HA := Lib.hid (HA.out.off hO (by omega))
    have HZr := Lib.hid (HZr.out.off hO (by omega))
    have HOr := Lib.hid (HOr.out.trans hO)
    have HRr := Lib.hid hR
    clear hO hR
    obtain ⟨f0, f1, f2, f3⟩ := HA.out.at4
    simp only [Nat.zero_add] at f1 f2 f3
    go_wp2_with fail
    refine (qnamed_any w1 p St k op 91 58 r1 Z (by have := HRr.out; rwa [take_two_eq Ht.out] at this)).mono ?_
    rintro en w2 ⟨T, k2, s2, rfl, hR, hO, ho⟩
    have Ho := Lib.hid (show Out (itemP Z) (.ok r) (fun x => T = x) s2 by simp only [Out] at ho ⊢; rw [Hi.out]; exact ho)
    clear ho f0 f1 f2 f3
    have HA := Lib.hid (HA.out.off hO (by omega))
    have HZr := Lib.hid (HZr.out.off hO (by omega))
    have HOr := Lib.hid (HOr.out.trans hO)
    have HRr := Lib.hid hR
    clear hO hR
    obtain ⟨g0, g1, g2, g3⟩ := HZr.out.at4
    simp only [Nat.zero_add] at g1 g2 g3
    have y0 := HZr.out.froz 0; have y1 := HZr.out.froz 1; have y2 := HZr.out.froz 2; have y3 := HZr.out.froz 3
    go_wp2_with fail
    change bodyPost _ _ _ _ _ (setV w2 (b + 1) T)
    obtain ⟨q0, q1, q2, q3⟩ := (HZr.out.setV (T)).at4
    simp only [Nat.zero_add] at q1 q2 q3
    have hRV := HRr.out.fillV (b := b + 1) (by omega) (T)
    have hOV := Off.setV HOr.out (b := b + 1) (by omega) (T)
    clear g0 g1 g2 g3 y0 y1 y2 y3
    generalize setV w2 (b + 1) (T) = WZ at *
    exact bodyPost_ret (v := W4.V (T)) (by simp [results, Tryz.results148, go_sem, q0, q1, q2, q3]) rfl ⟨T, k2, s2, rfl, hRV, hOV, Ho.out⟩
  | none =>
  cases ht2 : takeP [91, 61] r with
  | some r1 =>
    have Hi := Lib.hid (show itemP Z r = match singleP 61 r1 with | .error e => .error e | .ok (c, r2) => .ok (Z.add c, r2) by simp only [itemP, ht, ht2]; rfl)
    have Ht := Lib.hid ht; have Ht2 := Lib.hid ht2; clear ht ht2
    go_wp2_with fail
    refine (qis_miss [91, 58] (by simp) Ht.out HRr.out).mono ?_
    rintro en w1 ⟨rfl, hR, hO⟩
    have HA := Lib.hid (HA.out.off hO (by omega))
    have HZr := Lib.hid (HZr.out.off hO (by omega))
    have HOr := Lib.hid (HOr.out.trans hO)
    have HRr := Lib.hid hR
    clear hO hR
    go_wp2_with fail
    refine (qis_hit [91, 61] (by simp) Ht2.out HRr.out).mono ?_
    rintro en w2 ⟨rfl, hR, hO⟩
    have HA := Lib.hid (HA.out.off hO (by omega))
    have HZr := Lib.hid (HZr.out.off hO (by omega))
    have HOr := Lib.hid (HOr.out.trans hO)
    have HRr := Lib.hid hR
    clear hO hR
    go_wp2_with fail
    refine (qsingle_any w2 p St k op 91 61 r1 61 (by have := HRr.out; rwa [take_two_eq Ht2.out] at this)).mono ?_
    rintro en w3 ⟨c, k3, s3, hc, rfl, hR, hO, ho⟩
    have Ho := Lib.hid (show Out (itemP Z) (.ok r) (fun x => Z.add c = x) s3 by
      have hho := ho
      simp only [Out, Hi.out] at hho ⊢
      cases hsg : singleP 61 r1 with
      | error e => simp only [hsg] at hho ⊢; exact hho
      | ok y => obtain ⟨c', r2⟩ := y; simp only [hsg] at hho ⊢; obtain ⟨rfl, h'⟩ := hho; exact ⟨rfl, h'⟩)
    clear ho
    have HA := Lib.hid (HA.out.off hO (by omega))
    have HZr := Lib.hid (HZr.out.off hO (by omega))
    have HOr := Lib.hid (HOr.out.trans hO)
    have HRr := Lib.hid hR
    clear hO hR
    obtain ⟨f0, f1, f2, f3⟩ := HA.out.at4
    simp only [Nat.zero_add] at f1 f2 f3
    go_wp2_with fail
    refine (qin_any w3 Z c hc).mono ?_
    rintro en w4 ⟨rfl, hb⟩
    clear f0 f1 f2 f3
    have HA := Lib.hid (HA.out.later hb)
    have HZr := Lib.hid (HZr.out.later hb)
    have HOr := Lib.hid (HOr.out.trans (Off.of_below (p := p) hb))
    have HRr := Lib.hid (HRr.out.later hb)
    clear hb
    generalize Z.add c = T at *
    obtain ⟨g0, g1, g2, g3⟩ := HZr.out.at4
    simp only [Nat.zero_add] at g1 g2 g3
    have y0 := HZr.out.froz 0; have y1 := HZr.out.froz 1; have y2 := HZr.out.froz 2; have y3 := HZr.out.froz 3
    go_wp2_with fail
    change bodyPost _ _ _ _ _ (setV w4 (b + 1) T)
    obtain ⟨q0, q1, q2, q3⟩ := (HZr.out.setV (T)).at4
    simp only [Nat.zero_add] at q1 q2 q3
    have hRV := HRr.out.fillV (b := b + 1) (by omega) (T)
    have hOV := Off.setV HOr.out (b := b + 1) (by omega) (T)
    clear g0 g1 g2 g3 y0 y1 y2 y3
    generalize setV w4 (b + 1) (T) = WZ at *
    exact bodyPost_ret (v := W4.V (T)) (by simp [results, Tryz.results148, go_sem, q0, q1, q2, q3]) rfl ⟨T, k3, s3, rfl, hRV, hOV, Ho.out⟩
  | none =>
    have Hi := Lib.hid (show itemP Z r = match memberP r with | .error e => .error e | .ok (c, r1) => rangeP Z c r1 by simp only [itemP, ht, ht2]; rfl)
    have Ht := Lib.hid ht; have Ht2 := Lib.hid ht2; clear ht ht2
    go_wp2_with fail
    refine (qis_miss [91, 58] (by simp) Ht.out HRr.out).mono ?_
    rintro en w1 ⟨rfl, hR, hO⟩
    have HA := Lib.hid (HA.out.off hO (by omega))
    have HZr := Lib.hid (HZr.out.off hO (by omega))
    have HOr := Lib.hid (HOr.out.trans hO)
    have HRr := Lib.hid hR
    clear hO hR
    go_wp2_with fail
    refine (qis_miss [91, 61] (by simp) Ht2.out HRr.out).mono ?_
    rintro en w2 ⟨rfl, hR, hO⟩
    have HA := Lib.hid (HA.out.off hO (by omega))
    have HZr := Lib.hid (HZr.out.off hO (by omega))
    have HOr := Lib.hid (HOr.out.trans hO)
    have HRr := Lib.hid hR
    clear hO hR
    go_wp2_with fail
    refine (qmember_any w2 p St k op r false HRr.out).mono ?_
    rintro en w3 ⟨c, k3, s3, hc, rfl, hR, hO, ho⟩
    have Ho := Lib.hid (show Out memberP (.ok r) (fun x => c = x) s3 by simp only [Out, memberQ_false] at ho ⊢; exact ho)
    clear ho Ht Ht2
    have HA := Lib.hid (HA.out.off hO (by omega))
    have HZr := Lib.hid (HZr.out.off hO (by omega))
    have HOr := Lib.hid (HOr.out.trans hO)
    have HRr := Lib.hid hR
    clear hO hR
    obtain ⟨f0, f1, f2, f3⟩ := HA.out.at4
    simp only [Nat.zero_add] at f1 f2 f3
    cases s3 with
    | error e =>
      have Hi2 := Lib.hid (show itemP Z r = .error e by rw [Hi.out, out_bad Ho.out])
      clear Ho Hi
      go_wp2_with fail
      refine (qis_err [45] (by simp) HRr.out).mono ?_
      rintro en w4 ⟨rfl, hR, hO⟩
      clear f0 f1 f2 f3
      have HA := Lib.hid (HA.out.off hO (by omega))
      have HZr := Lib.hid (HZr.out.off hO (by omega))
      have HOr := Lib.hid (HOr.out.trans hO)
      have HRr := Lib.hid hR
      clear hO hR
      obtain ⟨f0, f1, f2, f3⟩ := HA.out.at4
      simp only [Nat.zero_add] at f1 f2 f3
      go_wp2_with fail
      refine (qin_any w4 Z c hc).mono ?_
      rintro en w5 ⟨rfl, hb⟩
      clear f0 f1 f2 f3
      have HA := Lib.hid (HA.out.later hb)
      have HZr := Lib.hid (HZr.out.later hb)
      have HOr := Lib.hid (HOr.out.trans (Off.of_below (p := p) hb))
      have HRr := Lib.hid (HRr.out.later hb)
      clear hb
      generalize Z.add c = T at *
      obtain ⟨g0, g1, g2, g3⟩ := HZr.out.at4
      simp only [Nat.zero_add] at g1 g2 g3
      have y0 := HZr.out.froz 0; have y1 := HZr.out.froz 1; have y2 := HZr.out.froz 2; have y3 := HZr.out.froz 3
      go_wp2_with fail
      change bodyPost _ _ _ _ _ (setV w5 (b + 1) T)
      obtain ⟨q0, q1, q2, q3⟩ := (HZr.out.setV (T)).at4
      simp only [Nat.zero_add] at q1 q2 q3
      have hRV := HRr.out.fillV (b := b + 1) (by omega) (T)
      have hOV := Off.setV HOr.out (b := b + 1) (by omega) (T)
      clear g0 g1 g2 g3 y0 y1 y2 y3
      generalize setV w5 (b + 1) (T) = WZ at *
      exact bodyPost_ret (v := W4.V (T)) (by simp [results, Tryz.results148, go_sem, q0, q1, q2, q3]) rfl ⟨T, k3, _, rfl, hRV, hOV, Out.bad Hi2.out⟩
    | ok r1 =>
      have Hi2 := Lib.hid (show itemP Z r = rangeP Z c r1 by
        obtain ⟨x, hx, rfl⟩ := out_good Ho.out
        rw [Hi.out, hx])
      clear Ho Hi
      cases t1 : takeP [45] r1 with
      | none =>
        have Hi3 := Lib.hid (show itemP Z r = .ok (Z.add c, r1) by rw [Hi2.out, range_one _ _ _ (.inl t1)])
        have T1 := Lib.hid t1; clear t1 Hi2
        go_wp2_with fail
        refine (qis_miss [45] (by simp) T1.out HRr.out).mono ?_
        rintro en w4 ⟨rfl, hR, hO⟩
        clear f0 f1 f2 f3
        have HA := Lib.hid (HA.out.off hO (by omega))
        have HZr := Lib.hid (HZr.out.off hO (by omega))
        have HOr := Lib.hid (HOr.out.trans hO)
        have HRr := Lib.hid hR
        clear hO hR
        obtain ⟨f0, f1, f2, f3⟩ := HA.out.at4
        simp only [Nat.zero_add] at f1 f2 f3
        go_wp2_with fail
        refine (qin_any w4 Z c hc).mono ?_
        rintro en w5 ⟨rfl, hb⟩
        clear f0 f1 f2 f3
        have HA := Lib.hid (HA.out.later hb)
        have HZr := Lib.hid (HZr.out.later hb)
        have HOr := Lib.hid (HOr.out.trans (Off.of_below (p := p) hb))
        have HRr := Lib.hid (HRr.out.later hb)
        clear hb
        generalize Z.add c = T at *
        obtain ⟨g0, g1, g2, g3⟩ := HZr.out.at4
        simp only [Nat.zero_add] at g1 g2 g3
        have y0 := HZr.out.froz 0; have y1 := HZr.out.froz 1; have y2 := HZr.out.froz 2; have y3 := HZr.out.froz 3
        go_wp2_with fail
        change bodyPost _ _ _ _ _ (setV w5 (b + 1) T)
        obtain ⟨q0, q1, q2, q3⟩ := (HZr.out.setV (T)).at4
        simp only [Nat.zero_add] at q1 q2 q3
        have hRV := HRr.out.fillV (b := b + 1) (by omega) (T)
        have hOV := Off.setV HOr.out (b := b + 1) (by omega) (T)
        clear g0 g1 g2 g3 y0 y1 y2 y3
        generalize setV w5 (b + 1) (T) = WZ at *
        exact bodyPost_ret (v := W4.V (T)) (by simp [results, Tryz.results148, go_sem, q0, q1, q2, q3]) rfl ⟨T, k3, _, rfl, hRV, hOV, Out.good Hi3.out rfl⟩
      | some r2 =>
        have T1 := Lib.hid t1
        cases t2 : takeP [45, 93] r1 with
        | some r3 =>
          have Hi3 := Lib.hid (show itemP Z r = .ok (Z.add c, r1) by rw [Hi2.out, range_one _ _ _ (.inr ⟨_, t2⟩)])
          have T2 := Lib.hid t2; clear t1 t2 Hi2
          go_wp2_with fail
          refine (qis_hit [45] (by simp) T1.out HRr.out).mono ?_
          rintro en w4 ⟨rfl, hR, hO⟩
          clear f0 f1 f2 f3
          have HA := Lib.hid (HA.out.off hO (by omega))
          have HZr := Lib.hid (HZr.out.off hO (by omega))
          have HOr := Lib.hid (HOr.out.trans hO)
          have HRr := Lib.hid hR
          clear hO hR
          go_wp2_with fail
          refine (qis_hit [45, 93] (by simp) T2.out HRr.out).mono ?_
          rintro en w5 ⟨rfl, hR, hO⟩
          have HA := Lib.hid (HA.out.off hO (by omega))
          have HZr := Lib.hid (HZr.out.off hO (by omega))
          have HOr := Lib.hid (HOr.out.trans hO)
          have HRr := Lib.hid hR
          clear hO hR
          obtain ⟨f0, f1, f2, f3⟩ := HA.out.at4
          simp only [Nat.zero_add] at f1 f2 f3
          go_wp2_with fail
          refine (qin_any w5 Z c hc).mono ?_
          rintro en w6 ⟨rfl, hb⟩
          clear f0 f1 f2 f3
          have HA := Lib.hid (HA.out.later hb)
          have HZr := Lib.hid (HZr.out.later hb)
          have HOr := Lib.hid (HOr.out.trans (Off.of_below (p := p) hb))
          have HRr := Lib.hid (HRr.out.later hb)
          clear hb
          generalize Z.add c = T at *
          obtain ⟨g0, g1, g2, g3⟩ := HZr.out.at4
          simp only [Nat.zero_add] at g1 g2 g3
          have y0 := HZr.out.froz 0; have y1 := HZr.out.froz 1; have y2 := HZr.out.froz 2; have y3 := HZr.out.froz 3
          go_wp2_with fail
          change bodyPost _ _ _ _ _ (setV w6 (b + 1) T)
          obtain ⟨q0, q1, q2, q3⟩ := (HZr.out.setV (T)).at4
          simp only [Nat.zero_add] at q1 q2 q3
          have hRV := HRr.out.fillV (b := b + 1) (by omega) (T)
          have hOV := Off.setV HOr.out (b := b + 1) (by omega) (T)
          clear g0 g1 g2 g3 y0 y1 y2 y3
          generalize setV w6 (b + 1) (T) = WZ at *
          exact bodyPost_ret (v := W4.V (T)) (by simp [results, Tryz.results148, go_sem, q0, q1, q2, q3]) rfl ⟨T, k3, _, rfl, hRV, hOV, Out.good Hi3.out rfl⟩
        | none =>
          have Hi3 := Lib.hid (show itemP Z r = match memberQ true r2 with | .error e => .error e | .ok (t, r2) => if t < c then .error 102 else .ok (Z.span c (t + 1 - c), r2) by rw [Hi2.out, range_q _ _ _ _ t1 t2])
          have hr1 : r1 = 45 :: r2 := by
            cases r1 with
            | nil => rw [takeP_nil _ (by simp)] at t1; cases t1
            | cons x t =>
              rw [takeP_one] at t1
              split at t1
              · rename_i h; cases t1; rw [← h]
              · cases t1
          have Hr1 := Lib.hid hr1
          have T2 := Lib.hid t2; clear t1 t2 Hi2 hr1
          go_wp2_with fail
          refine (qis_hit [45] (by simp) T1.out HRr.out).mono ?_
          rintro en w4 ⟨rfl, hR, hO⟩
          clear f0 f1 f2 f3
          have HA := Lib.hid (HA.out.off hO (by omega))
          have HZr := Lib.hid (HZr.out.off hO (by omega))
          have HOr := Lib.hid (HOr.out.trans hO)
          have HRr := Lib.hid hR
          clear hO hR
          go_wp2_with fail
          refine (qis_miss [45, 93] (by simp) T2.out HRr.out).mono ?_
          rintro en w5 ⟨rfl, hR, hO⟩
          have hkb3 : k3 ≤ 1024 := Nat.le_trans hR.rdr.le hR.rdr.top
          have HA := Lib.hid (HA.out.off hO (by omega))
          have HZr := Lib.hid (HZr.out.off hO (by omega))
          have HOr := Lib.hid (HOr.out.trans hO)
          have HRr := Lib.hid hR
          clear hO hR
          have c1 := HRr.out.rdr.c1
          have y1 := HRr.out.rdr.z 1
          go_upto_region 10 with fail
          have hR := HRr.out.step 1 (by rw [Hr1.out]; simp)
          rw [show ((1 : Nat) : Int) = 1 from rfl, show r1.drop 1 = r2 by rw [Hr1.out]; rfl] at hR
          have hO := (Off.refl p w5).set 1 (.int .i64 ((k3 : Int) + 1))
          generalize w5.setCell _ _ = W5 at *
          clear c1 y1
          have HA := Lib.hid (HA.out.off hO (by omega))
          have HZr := Lib.hid (HZr.out.off hO (by omega))
          have HOr := Lib.hid (HOr.out.trans hO)
          have HRr := Lib.hid hR
          clear hO hR
          go_wp2_with fail
          refine (qmember_any W5 p St (k3 + 1) op r2 true HRr.out).mono ?_
          rintro en w6 ⟨t, k6, s6, htb, rfl, hR, hO, ho⟩
          have Ho := Lib.hid ho
          have c3 := hR.rdr.c3
          have hne := hR.ne
          clear ho
          have HA := Lib.hid (HA.out.off hO (by omega))
          have HZr := Lib.hid (HZr.out.off hO (by omega))
          have HOr := Lib.hid (HOr.out.trans hO)
          have HRr := Lib.hid hR
          clear hO hR
          have hcz : (t : Int) < 256 := by omega
          have hcy : (c : Int) < 256 := by omega
          have hw1 : IntKind.i64.wrap (c : Int) = (c : Int) := by simp [IntKind.wrap, IntKind.signed, IntKind.bits]; omega
          have hw2 : IntKind.i64.wrap (t : Int) = (t : Int) := by simp [IntKind.wrap, IntKind.signed, IntKind.bits]; omega
          cases s6 with
          | error e =>
            have Hi4 := Lib.hid (show itemP Z r = .error e by rw [Hi3.out, out_bad Ho.out])
            have hne0 := hne e rfl
            have hb0 : (e == 0) = false := by rw [beq_eq_false_iff_ne]; exact hne0
            simp only [Rs.no] at c3
            clear Ho Hi3 hne
            obtain ⟨f0, f1, f2, f3⟩ := HA.out.at4
            simp only [Nat.zero_add] at f1 f2 f3
            go_wp2_with fail
            refine (qspan_any w6 Z c t (by omega) (by omega)).mono ?_
            rintro en w7 ⟨rfl, hb⟩
            clear f0 f1 f2 f3 c3
            have HA := Lib.hid (HA.out.later hb)
            have HZr := Lib.hid (HZr.out.later hb)
            have HOr := Lib.hid (HOr.out.trans (Off.of_below (p := p) hb))
            have HRr := Lib.hid (HRr.out.later hb)
            clear hb
            generalize Z.span c _ = T at *
            obtain ⟨g0, g1, g2, g3⟩ := HZr.out.at4
            simp only [Nat.zero_add] at g1 g2 g3
            have y0 := HZr.out.froz 0; have y1 := HZr.out.froz 1; have y2 := HZr.out.froz 2; have y3 := HZr.out.froz 3
            go_wp2_with fail
            change bodyPost _ _ _ _ _ (setV w7 (b + 1) T)
            obtain ⟨q0, q1, q2, q3⟩ := (HZr.out.setV (T)).at4
            simp only [Nat.zero_add] at q1 q2 q3
            have hRV := HRr.out.fillV (b := b + 1) (by omega) (T)
            have hOV := Off.setV HOr.out (b := b + 1) (by omega) (T)
            clear g0 g1 g2 g3 y0 y1 y2 y3
            generalize setV w7 (b + 1) (T) = WZ at *
            exact bodyPost_ret (v := W4.V (T)) (by simp [results, Tryz.results148, go_sem, q0, q1, q2, q3]) rfl ⟨T, k6, _, rfl, hRV, hOV, Out.bad Hi4.out⟩
          | ok r4 =>
            have Hi4 := Lib.hid (show itemP Z r = if t < c then .error 102 else .ok (Z.span c (t + 1 - c), r4) by
              obtain ⟨x, hx, rfl⟩ := out_good Ho.out
              rw [Hi3.out, hx])
            simp only [Rs.no] at c3
            clear Ho Hi3 hne
            by_cases hlt : t < c
            · have Hi5 := Lib.hid (show itemP Z r = .error 102 by rw [Hi4.out, if_pos hlt])
              have hltI : (t : Int) < (c : Int) := by omega
              clear Hi4
              go_wp2_with fail
              refine (qfail_ok 102 (by omega) HRr.out).mono ?_
              rintro en w7 ⟨rfl, hR, hO⟩
              clear c3
              have HA := Lib.hid (HA.out.off hO (by omega))
              have HZr := Lib.hid (HZr.out.off hO (by omega))
              have HOr := Lib.hid (HOr.out.trans hO)
              have HRr := Lib.hid hR
              clear hO hR
              obtain ⟨f0, f1, f2, f3⟩ := HA.out.at4
              simp only [Nat.zero_add] at f1 f2 f3
              go_wp2_with fail
              refine (qspan_any w7 Z c t (by omega) (by omega)).mono ?_
              rintro en w8 ⟨rfl, hb⟩
              clear f0 f1 f2 f3
              have HA := Lib.hid (HA.out.later hb)
              have HZr := Lib.hid (HZr.out.later hb)
              have HOr := Lib.hid (HOr.out.trans (Off.of_below (p := p) hb))
              have HRr := Lib.hid (HRr.out.later hb)
              clear hb
              generalize Z.span c _ = T at *
              obtain ⟨g0, g1, g2, g3⟩ := HZr.out.at4
              simp only [Nat.zero_add] at g1 g2 g3
              have y0 := HZr.out.froz 0; have y1 := HZr.out.froz 1; have y2 := HZr.out.froz 2; have y3 := HZr.out.froz 3
              go_wp2_with fail
              change bodyPost _ _ _ _ _ (setV w8 (b + 1) T)
              obtain ⟨q0, q1, q2, q3⟩ := (HZr.out.setV (T)).at4
              simp only [Nat.zero_add] at q1 q2 q3
              have hRV := HRr.out.fillV (b := b + 1) (by omega) (T)
              have hOV := Off.setV HOr.out (b := b + 1) (by omega) (T)
              clear g0 g1 g2 g3 y0 y1 y2 y3
              generalize setV w8 (b + 1) (T) = WZ at *
              exact bodyPost_ret (v := W4.V (T)) (by simp [results, Tryz.results148, go_sem, q0, q1, q2, q3]) rfl ⟨T, k6, _, rfl, hRV, hOV, Out.bad Hi5.out⟩
            · have Hi5 := Lib.hid (show itemP Z r = .ok (Z.span c (t + 1 - c), r4) by rw [Hi4.out, if_neg hlt])
              have hltI : decide ((t : Int) < (c : Int)) = false := by rw [decide_eq_false_iff_not]; omega
              clear Hi4
              obtain ⟨f0, f1, f2, f3⟩ := HA.out.at4
              simp only [Nat.zero_add] at f1 f2 f3
              go_wp2_with fail
              refine (qspan_any w6 Z c t (by omega) (by omega)).mono ?_
              rintro en w8 ⟨rfl, hb⟩
              clear f0 f1 f2 f3 c3
              have HA := Lib.hid (HA.out.later hb)
              have HZr := Lib.hid (HZr.out.later hb)
              have HOr := Lib.hid (HOr.out.trans (Off.of_below (p := p) hb))
              have HRr := Lib.hid (HRr.out.later hb)
              clear hb
              generalize Z.span c _ = T at *
              obtain ⟨g0, g1, g2, g3⟩ := HZr.out.at4
              simp only [Nat.zero_add] at g1 g2 g3
              have y0 := HZr.out.froz 0; have y1 := HZr.out.froz 1; have y2 := HZr.out.froz 2; have y3 := HZr.out.froz 3
              go_wp2_with fail
              change bodyPost _ _ _ _ _ (setV w8 (b + 1) T)
              obtain ⟨q0, q1, q2, q3⟩ := (HZr.out.setV (T)).at4
              simp only [Nat.zero_add] at q1 q2 q3
              have hRV := HRr.out.fillV (b := b + 1) (by omega) (T)
              have hOV := Off.setV HOr.out (b := b + 1) (by omega) (T)
              clear g0 g1 g2 g3 y0 y1 y2 y3
              generalize setV w8 (b + 1) (T) = WZ at *
              exact bodyPost_ret (v := W4.V (T)) (by simp [results, Tryz.results148, go_sem, q0, q1, q2, q3]) rfl ⟨T, k6, _, rfl, hRV, hOV, Out.good Hi5.out rfl⟩
end Go.Proofs.YthlakbjnmbddaaaGreatDoor

/- vouchref10's Reader: bracket; one: walked. -/
set_option linter.unusedVariables false
set_option linter.unusedSimpArgs false
namespace Go.Proofs.YthlakbjnmbddaaaGreatDoor
open Go.RowKit

/-- What a step hands back that makes a node. -/
def QNode (p : Nat) (St : Bs) (op : Int) (f : Bs → PT) (s : Rs) (w : World) (en : Ending) (w' : World) : Prop :=
  ∃ (x : Nx) (k' : Nat) (s' : Rs), en = .returned (nodeV x.1 x.2.1 x.2.2) ∧ NodeAt w' (fun b => w.heap.size ≤ b ∧ b < w'.heap.size) x.1 x.2.1 x.2.2 ∧ RQ w' p St k' op s' ∧ Off p w w' ∧ Out f s (fun t => x.1 = t) s'
theorem RQ.boxX {w : World} {p : Nat} {S : Bs} {k : Nat} {op : Int} {s : Rs} (h : RQ w p S k op s) {b : Nat} (hb : p < b) (x : Nx) : RQ (writeX w b x) p S k op s := rq_below h (writeX_below (Below.refl b w) (Nat.le_refl _) x) hb
def brT (r : Bs) : PT := match bracketP r with | .error e => .error e | .ok (s, r1) => .ok (s.T, r1)
def notX (x : Int) : Int := bits .xor .u64 IntKind.u64.max x
def W4.xTo (s : W4) (i : Nat) : W4 := ⟨if 0 < i then notX s.a else s.a, if 1 < i then notX s.b else s.b, if 2 < i then notX s.c else s.c, if 3 < i then notX s.d else s.d⟩
theorem xTo_0 (s : W4) : s.xTo 0 = s := by simp [W4.xTo]
theorem xTo_all {s : W4} (h : Wok s) : s.xTo 4 = s.not := by
  simp only [W4.xTo, W4.not, notX]
  rw [xor_not h.a, xor_not h.b, xor_not h.c, xor_not h.d]
  simp
theorem xTo_put (s : W4) (i : Nat) (hi : i < 4) (u : Int) (hu : u = notX (s.word i)) : (s.xTo i).put i u = s.xTo (i + 1) := by
  subst hu
  rcases (show i = 0 ∨ i = 1 ∨ i = 2 ∨ i = 3 by omega) with rfl | rfl | rfl | rfl <;> simp [W4.xTo, W4.put, W4.word]
theorem item_nil {S : W4} : itemP S [] = .error 101 := rfl
theorem br_eq {neg : Bool} {r r0 : Bs} (h : bracketP r = match itemsP (r0.length + 1) w40 r0 with | .error e => .error e | .ok (s, r2) => .ok (if neg then s.not else s, r2)) :
    brT r = match itemsP (r0.length + 1) w40 r0 with | .error e => .error e | .ok (s, r2) => .ok ((if neg then s.not else s).T, r2) := by
  unfold brT
  rw [h]
  cases itemsP (r0.length + 1) w40 r0 with
  | error e => rfl
  | ok x => rfl
set_option maxRecDepth 100000 in
set_option maxHeartbeats 8000000 in
theorem qbracket_any (w : World) (p : Nat) (St : Bs) (k : Nat) (op : Int) (r : Bs) (h : RQ w p St k op (.ok r)) :
    Calls Tryz.prog 137 #[.pointer (some ⟨p, 0, none⟩)] w fun en w' => QNode p St op brT (.ok r) w en w' := by
  obtain ⟨neg, r0, htk, hl0, hbr⟩ := bracket_cases r
  have H := Lib.hid h; have Htk := Lib.hid htk; have Hbr := Lib.hid hbr
  have hp := h.lt
  clear h htk hbr
  go_enter Tryz.func137, Tryz.ntmps137
  go_upto_region 1 with fail
  generalize hW0 : w.alloc _ = W0
  have hB0 : Below w.heap.size w W0 := by subst hW0; exact (Below.refl _ _).alloc (Nat.le_refl _) _
  have hN0 : BlkX W0 w.heap.size (xcell (.mk 0 0 0 0 0 0 0 [], none, 0)).toArray := by subst hW0; exact BlkX.new w _
  clear hW0
  have ht := qtake_any W0 p St k op (.ok r) [94] (by simp) (H.out.later hB0)
  rw [Htk.out] at ht
  go_wp2_with fail
  refine ht.mono ?_
  rintro en w1 ⟨rfl, ⟨k1, h1⟩, hO1⟩
  have hN1 := Off.blk hO1 hN0 (by omega)
  have hO1 : Off p w w1 := (Off.of_below hB0).trans hO1
  have hz1 := hN1.lt
  try simp only at h1
  have H1 := Lib.hid h1; have HN1 := Lib.hid hN1; have HO1 := Lib.hid hO1
  clear ht h1 hN1 hO1 hN0 hB0 H
  go_upto_region 3 with fail
  generalize hW1 : w1.alloc _ = W1
  have hB1 : Below w1.heap.size w1 W1 := by subst hW1; exact (Below.refl _ _).alloc (Nat.le_refl _) _
  have hS2 : SetAt W1 w1.heap.size w40 := by subst hW1; exact SetAt.new w1
  clear hW1
  have HRr := Lib.hid (H1.out.later hB1)
  have HNr := Lib.hid (HN1.out.keep (hB1.block _ HN1.out.lt))
  have HOr := Lib.hid (HO1.out.trans (Off.of_below (p := p) hB1))
  clear H1 HN1 HO1 hB1
  generalize w1.heap.size = b1 at *
  have HSr := Lib.hid hS2
  clear hS2
  go_wp2_with fail
  go_loopg [5] (r0.length + 1) (fun n f wr => ∃ (first : Bool) (S : W4) (kr : Nat) (sr : Rs), f = .bool first ∧ RQ wr p St kr op sr ∧ BlkX wr w.heap.size (xcell (.mk 0 0 0 0 0 0 0 [], none, 0)).toArray ∧ SetAt wr b1 S ∧ Off p w wr ∧ ((∃ r', sr = .ok r' ∧ ItemsAt first n S r' (itemsP (r0.length + 1) w40 r0) ∧ Wok S) ∨ ∃ e, sr = .error e ∧ first = false ∧ brT r = .error e))
  case atStart => exact ⟨true, w40, k1, _, rfl, HRr.out, HNr.out, HSr.out, HOr.out, .inl ⟨r0, rfl, ⟨Nat.le_refl _, rfl⟩, wok0⟩⟩
  case round =>
    clear HRr HNr HSr HOr
    obtain ⟨first, S, kr, sr, rfl, hR, hN, hS, hO, hcase⟩ := hrel
    have HRr := Lib.hid hR; have HNr := Lib.hid hN; have HSr := Lib.hid hS; have HOr := Lib.hid hO
    have c3 := hR.rdr.c3
    have hne := hR.ne
    clear hR hN hS hO
    rcases hcase with ⟨r', rfl, ⟨hk, hG⟩, hwok⟩ | ⟨e, rfl, rfl, hbe⟩
    · simp only [Rs.no] at c3
      clear hne
      cases first with
      | true =>
        have HG1 := Lib.hid (show itemsP gk S r' = itemsP (r0.length + 1) w40 r0 by simpa using hG)
        clear hG
        have Hd := Lib.hid (done_q HRr.out)
        go_wp2_with fail
        refine Hd.out.mono ?_
        rintro en wd ⟨rfl, hR, hO⟩
        clear Hd
        have HNr := Lib.hid (Off.blk hO HNr.out (by omega))
        have HSr := Lib.hid (HSr.out.off hO (by omega))
        have HOr := Lib.hid (HOr.out.trans hO)
        have HRr := Lib.hid hR
        clear hO hR
        cases r' with
        | nil =>
          rw [show doneS (.ok []) = true from rfl]
          have Hs := Lib.hid (show Out brT (.ok r) (fun x => (if neg then S.xTo 4 else S).T = x) (.error 101) from Out.bad (by rw [br_eq Hbr.out, ← HG1.out, items_bad (by omega) item_nil]))
          clear HG1 Hbr
          go_wp2_with fail
          refine (qfail_ok 101 (by omega) HRr.out).mono ?_
          rintro en we ⟨rfl, hR, hO⟩
          have HNr := Lib.hid (Off.blk hO HNr.out (by omega))
          have HSr := Lib.hid (HSr.out.off hO (by omega))
          have HOr := Lib.hid (HOr.out.trans hO)
          have HRr := Lib.hid hR
          clear hO hR
          generalize (Except.error 101 : Rs) = s5 at *
          cases neg with
          | false =>
            have Hs := Lib.hid (show Out brT (.ok r) (fun x => S.T = x) s5 from Hs.out)
            obtain ⟨f0, f1, f2, f3⟩ := HSr.out.at4
            simp only [Nat.zero_add] at f1 f2 f3
            obtain ⟨⟨r0, r1, r2, r3, r4, r5, r6, r7⟩, hz⟩ := HNr.out.cells8
            have z0 := hz 0; have z1 := hz 1; have z2 := hz 2; have z3 := hz 3; have z4 := hz 4; have z5 := hz 5; have z6 := hz 6; have z7 := hz 7
            have lr := HNr.out.lt
            clear hz
            go_wp2_with fail
            change bodyPost _ _ _ _ _ (writeX we w.heap.size ((S.T, none, 0) : Nx))
            generalize hx : ((S.T, none, 0) : Nx) = x
            have Hx := Lib.hid hx
            clear hx
            have hfin := writeX_blk HNr.out x
            obtain ⟨⟨y0, y1, y2, y3, y4, y5, y6, y7⟩, _⟩ := hfin.cells8
            have hRS := HRr.out.boxX (b := w.heap.size) (by omega) x
            have hOff := Off.boxW HOr.out (Nat.le_refl _) x
            have hNod : NodeAt (writeX we w.heap.size x) (fun b => w.heap.size ≤ b ∧ b < (writeX we w.heap.size x).heap.size) x.1 x.2.1 x.2.2 := by rw [← Hx.out]; exact nodeAt_leafX _ _ _ rfl
            have Hout := Lib.hid (show Out brT (.ok r) (fun t => x.1 = t) s5 by rw [← Hx.out]; exact Hs.out)
            generalize writeX we w.heap.size x = WZ at *
            exact bodyPost_ret (v := nodeV x.1 x.2.1 x.2.2) (by simp [results, Tryz.results137, y0, y1, y2, y3, y4, y5, y6, y7, go_sem]) rfl ⟨x, kr, s5, rfl, hNod, hRS, hOff, Hout.out⟩
          | true =>
            have Hs := Lib.hid (show Out brT (.ok r) (fun x => (S.xTo 4).T = x) s5 from Hs.out)
            go_wp2_with fail
            go_loopg [6] 4 (fun k i wr => ∃ j : Nat, i = .int .i64 j ∧ j + k = 4 ∧ RQ wr p St kr op s5 ∧ BlkX wr w.heap.size (xcell (.mk 0 0 0 0 0 0 0 [], none, 0)).toArray ∧ SetAt wr b1 (S.xTo j) ∧ Off p w wr)
            case atStart => exact ⟨0, rfl, rfl, HRr.out, HNr.out, by rw [xTo_0]; exact HSr.out, HOr.out⟩
            case round =>
              obtain ⟨j, rfl, hj, h4, h5, h6, h7⟩ := hrel
              clear HRr HNr HSr HOr
              have HRr := Lib.hid h4; have HNr := Lib.hid h5; have HSr := Lib.hid h6; have HOr := Lib.hid h7
              have z0 := h6.froz 0; have z1 := h6.froz 1; have z2 := h6.froz 2; have z3 := h6.froz 3
              obtain ⟨f0, f1, f2, f3⟩ := h6.at4
              simp only [Nat.zero_add] at f1 f2 f3
              clear h4 h5 h6 h7
              rcases (show j = 0 ∨ j = 1 ∨ j = 2 ∨ j = 3 ∨ j = 4 by omega) with rfl | rfl | rfl | rfl | rfl
              · simp [W4.xTo] at f0
                go_wp2_with fail
                go_roundg (gk - 1)
                case measure => omega
                case rel => exact ⟨1, by go_num, by omega, HRr.out.put (by omega) 0 _, HNr.out.keep (Below.heap_setCell _ _ _ _ (by show w.heap.size ≠ b1; omega)), (by have h1 := HSr.out.put 0 (by omega) (bits .xor .u64 IntKind.u64.max S.a); rw [xTo_put S 0 (by omega) (bits .xor .u64 IntKind.u64.max S.a) rfl] at h1; exact h1), HOr.out.box (by omega) _ _⟩
              · simp [W4.xTo] at f1
                go_wp2_with fail
                go_roundg (gk - 1)
                case measure => omega
                case rel => exact ⟨2, by go_num, by omega, HRr.out.put (by omega) 1 _, HNr.out.keep (Below.heap_setCell _ _ _ _ (by show w.heap.size ≠ b1; omega)), (by have h1 := HSr.out.put 1 (by omega) (bits .xor .u64 IntKind.u64.max S.b); rw [xTo_put S 1 (by omega) (bits .xor .u64 IntKind.u64.max S.b) rfl] at h1; exact h1), HOr.out.box (by omega) _ _⟩
              · simp [W4.xTo] at f2
                go_wp2_with fail
                go_roundg (gk - 1)
                case measure => omega
                case rel => exact ⟨3, by go_num, by omega, HRr.out.put (by omega) 2 _, HNr.out.keep (Below.heap_setCell _ _ _ _ (by show w.heap.size ≠ b1; omega)), (by have h1 := HSr.out.put 2 (by omega) (bits .xor .u64 IntKind.u64.max S.c); rw [xTo_put S 2 (by omega) (bits .xor .u64 IntKind.u64.max S.c) rfl] at h1; exact h1), HOr.out.box (by omega) _ _⟩
              · simp [W4.xTo] at f3
                go_wp2_with fail
                go_roundg (gk - 1)
                case measure => omega
                case rel => exact ⟨4, by go_num, by omega, HRr.out.put (by omega) 3 _, HNr.out.keep (Below.heap_setCell _ _ _ _ (by show w.heap.size ≠ b1; omega)), (by have h1 := HSr.out.put 3 (by omega) (bits .xor .u64 IntKind.u64.max S.d); rw [xTo_put S 3 (by omega) (bits .xor .u64 IntKind.u64.max S.d) rfl] at h1; exact h1), HOr.out.box (by omega) _ _⟩
              · clear f0 f1 f2 f3 z0 z1 z2 z3
                generalize S.xTo 4 = SX at *
                obtain ⟨f0, f1, f2, f3⟩ := HSr.out.at4
                simp only [Nat.zero_add] at f1 f2 f3
                obtain ⟨⟨r0, r1, r2, r3, r4, r5, r6, r7⟩, hz⟩ := HNr.out.cells8
                have z0 := hz 0; have z1 := hz 1; have z2 := hz 2; have z3 := hz 3; have z4 := hz 4; have z5 := hz 5; have z6 := hz 6; have z7 := hz 7
                have lr := HNr.out.lt
                clear hz
                go_wp2_with fail
                change bodyPost _ _ _ _ _ (writeX wr w.heap.size ((SX.T, none, 0) : Nx))
                generalize hx : ((SX.T, none, 0) : Nx) = x
                have Hx := Lib.hid hx
                clear hx
                have hfin := writeX_blk HNr.out x
                obtain ⟨⟨y0, y1, y2, y3, y4, y5, y6, y7⟩, _⟩ := hfin.cells8
                have hRS := HRr.out.boxX (b := w.heap.size) (by omega) x
                have hOff := Off.boxW HOr.out (Nat.le_refl _) x
                have hNod : NodeAt (writeX wr w.heap.size x) (fun b => w.heap.size ≤ b ∧ b < (writeX wr w.heap.size x).heap.size) x.1 x.2.1 x.2.2 := by rw [← Hx.out]; exact nodeAt_leafX _ _ _ rfl
                have Hout := Lib.hid (show Out brT (.ok r) (fun t => x.1 = t) s5 by rw [← Hx.out]; exact Hs.out)
                generalize writeX wr w.heap.size x = WZ at *
                exact bodyPost_ret (v := nodeV x.1 x.2.1 x.2.2) (by simp [results, Tryz.results137, y0, y1, y2, y3, y4, y5, y6, y7, go_sem]) rfl ⟨x, kr, s5, rfl, hNod, hRS, hOff, Hout.out⟩
        | cons c0 t0 =>
          rw [show doneS (.ok (c0 :: t0)) = false from rfl]
          obtain ⟨f0, f1, f2, f3⟩ := HSr.out.at4
          simp only [Nat.zero_add] at f1 f2 f3
          go_wp2_with fail
          refine (qitem_any wd p St kr op (c0 :: t0) S HRr.out).mono ?_
          rintro en we ⟨S', ke, se, rfl, hR, hO, ho⟩
          clear f0 f1 f2 f3
          have HNr := Lib.hid (Off.blk hO HNr.out (by omega))
          have HSr := Lib.hid (HSr.out.off hO (by omega))
          have HOr := Lib.hid (HOr.out.trans hO)
          have HRr := Lib.hid hR
          clear hO hR
          have Ho := Lib.hid ho
          clear ho
          obtain ⟨g0, g1, g2, g3⟩ := HSr.out.at4
          simp only [Nat.zero_add] at g1 g2 g3
          have y0 := HSr.out.froz 0; have y1 := HSr.out.froz 1; have y2 := HSr.out.froz 2; have y3 := HSr.out.froz 3
          go_wp2_with fail
          change Handed _ _ _ (setV we b1 S')
          have hA := HSr.out.setV S'
          have hN := HNr.out.keep (setV_other we b1 S' w.heap.size (by omega))
          have hRV := HRr.out.fillV (b := b1) (by omega) S'
          have hOV := Off.setV HOr.out (b := b1) (by omega) S'
          clear g0 g1 g2 g3 y0 y1 y2 y3
          generalize setV we b1 S' = W1 at *
          cases se with
          | error e =>
            have hbe := Lib.hid (show brT r = .error e by rw [br_eq Hbr.out, ← HG1.out, items_bad (by omega) (out_bad Ho.out)])
            go_roundg 0
            case measure => omega
            case rel => exact ⟨false, S', ke, _, rfl, hRV, hN, hA, hOV, .inr ⟨e, rfl, rfl, hbe.out⟩⟩
          | ok r2 =>
            obtain ⟨x, hit, rfl⟩ := out_good Ho.out
            have hlt := item_lt hit
            have hwok2 := Lib.hid (item_ok hwok hit)
            have HG2 := Lib.hid (HG1.out.symm.trans (items_good (by omega) hit))
            go_roundg (gk - 1)
            case measure => omega
            case rel => exact ⟨false, S', ke, _, rfl, hRV, hN, hA, hOV, .inl ⟨r2, rfl, ⟨by omega, HG2.out.symm⟩, hwok2.out⟩⟩
      | false =>
        have hG2 : (match takeP [93] r' with | some r2 => Except.ok (S, r2) | none => itemsP gk S r') = itemsP (r0.length + 1) w40 r0 := by have h := hG; rw [if_neg (by simp)] at h; exact h
        clear hG
        cases ht : takeP [93] r' with
        | none =>
          rw [ht] at hG2
          have HG1 := Lib.hid (show itemsP gk S r' = itemsP (r0.length + 1) w40 r0 from hG2)
          have Ht := Lib.hid ht
          clear hG2 ht
          go_wp2_with fail
          refine (qtake_miss [93] (by simp) Ht.out HRr.out).mono ?_
          rintro en wm ⟨rfl, ⟨kr, hR⟩, hO⟩
          clear c3
          have HNr := Lib.hid (Off.blk hO HNr.out (by omega))
          have HSr := Lib.hid (HSr.out.off hO (by omega))
          have HOr := Lib.hid (HOr.out.trans hO)
          have HRr := Lib.hid hR
          clear hO hR
          have Hd := Lib.hid (done_q HRr.out)
          go_wp2_with fail
          refine Hd.out.mono ?_
          rintro en wd ⟨rfl, hR, hO⟩
          clear Hd
          have HNr := Lib.hid (Off.blk hO HNr.out (by omega))
          have HSr := Lib.hid (HSr.out.off hO (by omega))
          have HOr := Lib.hid (HOr.out.trans hO)
          have HRr := Lib.hid hR
          clear hO hR
          cases r' with
          | nil =>
            rw [show doneS (.ok []) = true from rfl]
            have Hs := Lib.hid (show Out brT (.ok r) (fun x => (if neg then S.xTo 4 else S).T = x) (.error 101) from Out.bad (by rw [br_eq Hbr.out, ← HG1.out, items_bad (by omega) item_nil]))
            clear HG1 Hbr
            go_wp2_with fail
            refine (qfail_ok 101 (by omega) HRr.out).mono ?_
            rintro en we ⟨rfl, hR, hO⟩
            have HNr := Lib.hid (Off.blk hO HNr.out (by omega))
            have HSr := Lib.hid (HSr.out.off hO (by omega))
            have HOr := Lib.hid (HOr.out.trans hO)
            have HRr := Lib.hid hR
            clear hO hR
            generalize (Except.error 101 : Rs) = s5 at *
            cases neg with
            | false =>
              have Hs := Lib.hid (show Out brT (.ok r) (fun x => S.T = x) s5 from Hs.out)
              obtain ⟨f0, f1, f2, f3⟩ := HSr.out.at4
              simp only [Nat.zero_add] at f1 f2 f3
              obtain ⟨⟨r0, r1, r2, r3, r4, r5, r6, r7⟩, hz⟩ := HNr.out.cells8
              have z0 := hz 0; have z1 := hz 1; have z2 := hz 2; have z3 := hz 3; have z4 := hz 4; have z5 := hz 5; have z6 := hz 6; have z7 := hz 7
              have lr := HNr.out.lt
              clear hz
              go_wp2_with fail
              change bodyPost _ _ _ _ _ (writeX we w.heap.size ((S.T, none, 0) : Nx))
              generalize hx : ((S.T, none, 0) : Nx) = x
              have Hx := Lib.hid hx
              clear hx
              have hfin := writeX_blk HNr.out x
              obtain ⟨⟨y0, y1, y2, y3, y4, y5, y6, y7⟩, _⟩ := hfin.cells8
              have hRS := HRr.out.boxX (b := w.heap.size) (by omega) x
              have hOff := Off.boxW HOr.out (Nat.le_refl _) x
              have hNod : NodeAt (writeX we w.heap.size x) (fun b => w.heap.size ≤ b ∧ b < (writeX we w.heap.size x).heap.size) x.1 x.2.1 x.2.2 := by rw [← Hx.out]; exact nodeAt_leafX _ _ _ rfl
              have Hout := Lib.hid (show Out brT (.ok r) (fun t => x.1 = t) s5 by rw [← Hx.out]; exact Hs.out)
              generalize writeX we w.heap.size x = WZ at *
              exact bodyPost_ret (v := nodeV x.1 x.2.1 x.2.2) (by simp [results, Tryz.results137, y0, y1, y2, y3, y4, y5, y6, y7, go_sem]) rfl ⟨x, kr, s5, rfl, hNod, hRS, hOff, Hout.out⟩
            | true =>
              have Hs := Lib.hid (show Out brT (.ok r) (fun x => (S.xTo 4).T = x) s5 from Hs.out)
              go_wp2_with fail
              go_loopg [6] 4 (fun k i wr => ∃ j : Nat, i = .int .i64 j ∧ j + k = 4 ∧ RQ wr p St kr op s5 ∧ BlkX wr w.heap.size (xcell (.mk 0 0 0 0 0 0 0 [], none, 0)).toArray ∧ SetAt wr b1 (S.xTo j) ∧ Off p w wr)
              case atStart => exact ⟨0, rfl, rfl, HRr.out, HNr.out, by rw [xTo_0]; exact HSr.out, HOr.out⟩
              case round =>
                obtain ⟨j, rfl, hj, h4, h5, h6, h7⟩ := hrel
                clear HRr HNr HSr HOr
                have HRr := Lib.hid h4; have HNr := Lib.hid h5; have HSr := Lib.hid h6; have HOr := Lib.hid h7
                have z0 := h6.froz 0; have z1 := h6.froz 1; have z2 := h6.froz 2; have z3 := h6.froz 3
                obtain ⟨f0, f1, f2, f3⟩ := h6.at4
                simp only [Nat.zero_add] at f1 f2 f3
                clear h4 h5 h6 h7
                rcases (show j = 0 ∨ j = 1 ∨ j = 2 ∨ j = 3 ∨ j = 4 by omega) with rfl | rfl | rfl | rfl | rfl
                · simp [W4.xTo] at f0
                  go_wp2_with fail
                  go_roundg (gk - 1)
                  case measure => omega
                  case rel => exact ⟨1, by go_num, by omega, HRr.out.put (by omega) 0 _, HNr.out.keep (Below.heap_setCell _ _ _ _ (by show w.heap.size ≠ b1; omega)), (by have h1 := HSr.out.put 0 (by omega) (bits .xor .u64 IntKind.u64.max S.a); rw [xTo_put S 0 (by omega) (bits .xor .u64 IntKind.u64.max S.a) rfl] at h1; exact h1), HOr.out.box (by omega) _ _⟩
                · simp [W4.xTo] at f1
                  go_wp2_with fail
                  go_roundg (gk - 1)
                  case measure => omega
                  case rel => exact ⟨2, by go_num, by omega, HRr.out.put (by omega) 1 _, HNr.out.keep (Below.heap_setCell _ _ _ _ (by show w.heap.size ≠ b1; omega)), (by have h1 := HSr.out.put 1 (by omega) (bits .xor .u64 IntKind.u64.max S.b); rw [xTo_put S 1 (by omega) (bits .xor .u64 IntKind.u64.max S.b) rfl] at h1; exact h1), HOr.out.box (by omega) _ _⟩
                · simp [W4.xTo] at f2
                  go_wp2_with fail
                  go_roundg (gk - 1)
                  case measure => omega
                  case rel => exact ⟨3, by go_num, by omega, HRr.out.put (by omega) 2 _, HNr.out.keep (Below.heap_setCell _ _ _ _ (by show w.heap.size ≠ b1; omega)), (by have h1 := HSr.out.put 2 (by omega) (bits .xor .u64 IntKind.u64.max S.c); rw [xTo_put S 2 (by omega) (bits .xor .u64 IntKind.u64.max S.c) rfl] at h1; exact h1), HOr.out.box (by omega) _ _⟩
                · simp [W4.xTo] at f3
                  go_wp2_with fail
                  go_roundg (gk - 1)
                  case measure => omega
                  case rel => exact ⟨4, by go_num, by omega, HRr.out.put (by omega) 3 _, HNr.out.keep (Below.heap_setCell _ _ _ _ (by show w.heap.size ≠ b1; omega)), (by have h1 := HSr.out.put 3 (by omega) (bits .xor .u64 IntKind.u64.max S.d); rw [xTo_put S 3 (by omega) (bits .xor .u64 IntKind.u64.max S.d) rfl] at h1; exact h1), HOr.out.box (by omega) _ _⟩
                · clear f0 f1 f2 f3 z0 z1 z2 z3
                  generalize S.xTo 4 = SX at *
                  obtain ⟨f0, f1, f2, f3⟩ := HSr.out.at4
                  simp only [Nat.zero_add] at f1 f2 f3
                  obtain ⟨⟨r0, r1, r2, r3, r4, r5, r6, r7⟩, hz⟩ := HNr.out.cells8
                  have z0 := hz 0; have z1 := hz 1; have z2 := hz 2; have z3 := hz 3; have z4 := hz 4; have z5 := hz 5; have z6 := hz 6; have z7 := hz 7
                  have lr := HNr.out.lt
                  clear hz
                  go_wp2_with fail
                  change bodyPost _ _ _ _ _ (writeX wr w.heap.size ((SX.T, none, 0) : Nx))
                  generalize hx : ((SX.T, none, 0) : Nx) = x
                  have Hx := Lib.hid hx
                  clear hx
                  have hfin := writeX_blk HNr.out x
                  obtain ⟨⟨y0, y1, y2, y3, y4, y5, y6, y7⟩, _⟩ := hfin.cells8
                  have hRS := HRr.out.boxX (b := w.heap.size) (by omega) x
                  have hOff := Off.boxW HOr.out (Nat.le_refl _) x
                  have hNod : NodeAt (writeX wr w.heap.size x) (fun b => w.heap.size ≤ b ∧ b < (writeX wr w.heap.size x).heap.size) x.1 x.2.1 x.2.2 := by rw [← Hx.out]; exact nodeAt_leafX _ _ _ rfl
                  have Hout := Lib.hid (show Out brT (.ok r) (fun t => x.1 = t) s5 by rw [← Hx.out]; exact Hs.out)
                  generalize writeX wr w.heap.size x = WZ at *
                  exact bodyPost_ret (v := nodeV x.1 x.2.1 x.2.2) (by simp [results, Tryz.results137, y0, y1, y2, y3, y4, y5, y6, y7, go_sem]) rfl ⟨x, kr, s5, rfl, hNod, hRS, hOff, Hout.out⟩
          | cons c0 t0 =>
            rw [show doneS (.ok (c0 :: t0)) = false from rfl]
            obtain ⟨f0, f1, f2, f3⟩ := HSr.out.at4
            simp only [Nat.zero_add] at f1 f2 f3
            go_wp2_with fail
            refine (qitem_any wd p St kr op (c0 :: t0) S HRr.out).mono ?_
            rintro en we ⟨S', ke, se, rfl, hR, hO, ho⟩
            clear f0 f1 f2 f3
            have HNr := Lib.hid (Off.blk hO HNr.out (by omega))
            have HSr := Lib.hid (HSr.out.off hO (by omega))
            have HOr := Lib.hid (HOr.out.trans hO)
            have HRr := Lib.hid hR
            clear hO hR
            have Ho := Lib.hid ho
            clear ho
            obtain ⟨g0, g1, g2, g3⟩ := HSr.out.at4
            simp only [Nat.zero_add] at g1 g2 g3
            have y0 := HSr.out.froz 0; have y1 := HSr.out.froz 1; have y2 := HSr.out.froz 2; have y3 := HSr.out.froz 3
            go_wp2_with fail
            change Handed _ _ _ (setV we b1 S')
            have hA := HSr.out.setV S'
            have hN := HNr.out.keep (setV_other we b1 S' w.heap.size (by omega))
            have hRV := HRr.out.fillV (b := b1) (by omega) S'
            have hOV := Off.setV HOr.out (b := b1) (by omega) S'
            clear g0 g1 g2 g3 y0 y1 y2 y3
            generalize setV we b1 S' = W1 at *
            cases se with
            | error e =>
              have hbe := Lib.hid (show brT r = .error e by rw [br_eq Hbr.out, ← HG1.out, items_bad (by omega) (out_bad Ho.out)])
              go_roundg 0
              case measure => omega
              case rel => exact ⟨false, S', ke, _, rfl, hRV, hN, hA, hOV, .inr ⟨e, rfl, rfl, hbe.out⟩⟩
            | ok r2 =>
              obtain ⟨x, hit, rfl⟩ := out_good Ho.out
              have hlt := item_lt hit
              have hwok2 := Lib.hid (item_ok hwok hit)
              have HG2 := Lib.hid (HG1.out.symm.trans (items_good (by omega) hit))
              go_roundg (gk - 1)
              case measure => omega
              case rel => exact ⟨false, S', ke, _, rfl, hRV, hN, hA, hOV, .inl ⟨r2, rfl, ⟨by omega, HG2.out.symm⟩, hwok2.out⟩⟩
        | some r2 =>
          rw [ht] at hG2
          have Hs := Lib.hid (show Out brT (.ok r) (fun x => (if neg then S.xTo 4 else S).T = x) (.ok r2) from Out.good (x := (if neg then S.not else S).T) (by rw [br_eq Hbr.out, ← hG2]) (by cases neg with | false => rfl | true => simp [xTo_all hwok]))
          have Ht := Lib.hid ht
          clear hG2 ht Hbr
          go_wp2_with fail
          refine (qtake_hit [93] (by simp) Ht.out HRr.out).mono ?_
          rintro en wm ⟨rfl, ⟨km, hR⟩, hO⟩
          clear c3 Ht
          have HNr := Lib.hid (Off.blk hO HNr.out (by omega))
          have HSr := Lib.hid (HSr.out.off hO (by omega))
          have HOr := Lib.hid (HOr.out.trans hO)
          have HRr := Lib.hid hR
          clear hO hR
          generalize (Except.ok r2 : Rs) = s5 at *
          cases neg with
          | false =>
            have Hs := Lib.hid (show Out brT (.ok r) (fun x => S.T = x) s5 from Hs.out)
            obtain ⟨f0, f1, f2, f3⟩ := HSr.out.at4
            simp only [Nat.zero_add] at f1 f2 f3
            obtain ⟨⟨r0, r1, r2, r3, r4, r5, r6, r7⟩, hz⟩ := HNr.out.cells8
            have z0 := hz 0; have z1 := hz 1; have z2 := hz 2; have z3 := hz 3; have z4 := hz 4; have z5 := hz 5; have z6 := hz 6; have z7 := hz 7
            have lr := HNr.out.lt
            clear hz
            go_wp2_with fail
            change bodyPost _ _ _ _ _ (writeX wm w.heap.size ((S.T, none, 0) : Nx))
            generalize hx : ((S.T, none, 0) : Nx) = x
            have Hx := Lib.hid hx
            clear hx
            have hfin := writeX_blk HNr.out x
            obtain ⟨⟨y0, y1, y2, y3, y4, y5, y6, y7⟩, _⟩ := hfin.cells8
            have hRS := HRr.out.boxX (b := w.heap.size) (by omega) x
            have hOff := Off.boxW HOr.out (Nat.le_refl _) x
            have hNod : NodeAt (writeX wm w.heap.size x) (fun b => w.heap.size ≤ b ∧ b < (writeX wm w.heap.size x).heap.size) x.1 x.2.1 x.2.2 := by rw [← Hx.out]; exact nodeAt_leafX _ _ _ rfl
            have Hout := Lib.hid (show Out brT (.ok r) (fun t => x.1 = t) s5 by rw [← Hx.out]; exact Hs.out)
            generalize writeX wm w.heap.size x = WZ at *
            exact bodyPost_ret (v := nodeV x.1 x.2.1 x.2.2) (by simp [results, Tryz.results137, y0, y1, y2, y3, y4, y5, y6, y7, go_sem]) rfl ⟨x, km, s5, rfl, hNod, hRS, hOff, Hout.out⟩
          | true =>
            have Hs := Lib.hid (show Out brT (.ok r) (fun x => (S.xTo 4).T = x) s5 from Hs.out)
            go_wp2_with fail
            go_loopg [6] 4 (fun k i wr => ∃ j : Nat, i = .int .i64 j ∧ j + k = 4 ∧ RQ wr p St km op s5 ∧ BlkX wr w.heap.size (xcell (.mk 0 0 0 0 0 0 0 [], none, 0)).toArray ∧ SetAt wr b1 (S.xTo j) ∧ Off p w wr)
            case atStart => exact ⟨0, rfl, rfl, HRr.out, HNr.out, by rw [xTo_0]; exact HSr.out, HOr.out⟩
            case round =>
              obtain ⟨j, rfl, hj, h4, h5, h6, h7⟩ := hrel
              clear HRr HNr HSr HOr
              have HRr := Lib.hid h4; have HNr := Lib.hid h5; have HSr := Lib.hid h6; have HOr := Lib.hid h7
              have z0 := h6.froz 0; have z1 := h6.froz 1; have z2 := h6.froz 2; have z3 := h6.froz 3
              obtain ⟨f0, f1, f2, f3⟩ := h6.at4
              simp only [Nat.zero_add] at f1 f2 f3
              clear h4 h5 h6 h7
              rcases (show j = 0 ∨ j = 1 ∨ j = 2 ∨ j = 3 ∨ j = 4 by omega) with rfl | rfl | rfl | rfl | rfl
              · simp [W4.xTo] at f0
                go_wp2_with fail
                go_roundg (gk - 1)
                case measure => omega
                case rel => exact ⟨1, by go_num, by omega, HRr.out.put (by omega) 0 _, HNr.out.keep (Below.heap_setCell _ _ _ _ (by show w.heap.size ≠ b1; omega)), (by have h1 := HSr.out.put 0 (by omega) (bits .xor .u64 IntKind.u64.max S.a); rw [xTo_put S 0 (by omega) (bits .xor .u64 IntKind.u64.max S.a) rfl] at h1; exact h1), HOr.out.box (by omega) _ _⟩
              · simp [W4.xTo] at f1
                go_wp2_with fail
                go_roundg (gk - 1)
                case measure => omega
                case rel => exact ⟨2, by go_num, by omega, HRr.out.put (by omega) 1 _, HNr.out.keep (Below.heap_setCell _ _ _ _ (by show w.heap.size ≠ b1; omega)), (by have h1 := HSr.out.put 1 (by omega) (bits .xor .u64 IntKind.u64.max S.b); rw [xTo_put S 1 (by omega) (bits .xor .u64 IntKind.u64.max S.b) rfl] at h1; exact h1), HOr.out.box (by omega) _ _⟩
              · simp [W4.xTo] at f2
                go_wp2_with fail
                go_roundg (gk - 1)
                case measure => omega
                case rel => exact ⟨3, by go_num, by omega, HRr.out.put (by omega) 2 _, HNr.out.keep (Below.heap_setCell _ _ _ _ (by show w.heap.size ≠ b1; omega)), (by have h1 := HSr.out.put 2 (by omega) (bits .xor .u64 IntKind.u64.max S.c); rw [xTo_put S 2 (by omega) (bits .xor .u64 IntKind.u64.max S.c) rfl] at h1; exact h1), HOr.out.box (by omega) _ _⟩
              · simp [W4.xTo] at f3
                go_wp2_with fail
                go_roundg (gk - 1)
                case measure => omega
                case rel => exact ⟨4, by go_num, by omega, HRr.out.put (by omega) 3 _, HNr.out.keep (Below.heap_setCell _ _ _ _ (by show w.heap.size ≠ b1; omega)), (by have h1 := HSr.out.put 3 (by omega) (bits .xor .u64 IntKind.u64.max S.d); rw [xTo_put S 3 (by omega) (bits .xor .u64 IntKind.u64.max S.d) rfl] at h1; exact h1), HOr.out.box (by omega) _ _⟩
              · clear f0 f1 f2 f3 z0 z1 z2 z3
                generalize S.xTo 4 = SX at *
                obtain ⟨f0, f1, f2, f3⟩ := HSr.out.at4
                simp only [Nat.zero_add] at f1 f2 f3
                obtain ⟨⟨r0, r1, r2, r3, r4, r5, r6, r7⟩, hz⟩ := HNr.out.cells8
                have z0 := hz 0; have z1 := hz 1; have z2 := hz 2; have z3 := hz 3; have z4 := hz 4; have z5 := hz 5; have z6 := hz 6; have z7 := hz 7
                have lr := HNr.out.lt
                clear hz
                go_wp2_with fail
                change bodyPost _ _ _ _ _ (writeX wr w.heap.size ((SX.T, none, 0) : Nx))
                generalize hx : ((SX.T, none, 0) : Nx) = x
                have Hx := Lib.hid hx
                clear hx
                have hfin := writeX_blk HNr.out x
                obtain ⟨⟨y0, y1, y2, y3, y4, y5, y6, y7⟩, _⟩ := hfin.cells8
                have hRS := HRr.out.boxX (b := w.heap.size) (by omega) x
                have hOff := Off.boxW HOr.out (Nat.le_refl _) x
                have hNod : NodeAt (writeX wr w.heap.size x) (fun b => w.heap.size ≤ b ∧ b < (writeX wr w.heap.size x).heap.size) x.1 x.2.1 x.2.2 := by rw [← Hx.out]; exact nodeAt_leafX _ _ _ rfl
                have Hout := Lib.hid (show Out brT (.ok r) (fun t => x.1 = t) s5 by rw [← Hx.out]; exact Hs.out)
                generalize writeX wr w.heap.size x = WZ at *
                exact bodyPost_ret (v := nodeV x.1 x.2.1 x.2.2) (by simp [results, Tryz.results137, y0, y1, y2, y3, y4, y5, y6, y7, go_sem]) rfl ⟨x, km, s5, rfl, hNod, hRS, hOff, Hout.out⟩
    · simp only [Rs.no] at c3
      have hne0 := hne e rfl
      have hb0 : (e == 0) = false := by rw [beq_eq_false_iff_ne]; exact hne0
      have Hs := Lib.hid (show Out brT (.ok r) (fun x => (if neg then S.xTo 4 else S).T = x) (.error e) from Out.bad hbe)
      clear hbe hne hne0
      generalize (Except.error e : Rs) = s5 at *
      cases neg with
      | false =>
        have Hs := Lib.hid (show Out brT (.ok r) (fun x => S.T = x) s5 from Hs.out)
        obtain ⟨f0, f1, f2, f3⟩ := HSr.out.at4
        simp only [Nat.zero_add] at f1 f2 f3
        obtain ⟨⟨r0, r1, r2, r3, r4, r5, r6, r7⟩, hz⟩ := HNr.out.cells8
        have z0 := hz 0; have z1 := hz 1; have z2 := hz 2; have z3 := hz 3; have z4 := hz 4; have z5 := hz 5; have z6 := hz 6; have z7 := hz 7
        have lr := HNr.out.lt
        clear hz
        go_wp2_with fail
        change bodyPost _ _ _ _ _ (writeX wr w.heap.size ((S.T, none, 0) : Nx))
        generalize hx : ((S.T, none, 0) : Nx) = x
        have Hx := Lib.hid hx
        clear hx
        have hfin := writeX_blk HNr.out x
        obtain ⟨⟨y0, y1, y2, y3, y4, y5, y6, y7⟩, _⟩ := hfin.cells8
        have hRS := HRr.out.boxX (b := w.heap.size) (by omega) x
        have hOff := Off.boxW HOr.out (Nat.le_refl _) x
        have hNod : NodeAt (writeX wr w.heap.size x) (fun b => w.heap.size ≤ b ∧ b < (writeX wr w.heap.size x).heap.size) x.1 x.2.1 x.2.2 := by rw [← Hx.out]; exact nodeAt_leafX _ _ _ rfl
        have Hout := Lib.hid (show Out brT (.ok r) (fun t => x.1 = t) s5 by rw [← Hx.out]; exact Hs.out)
        generalize writeX wr w.heap.size x = WZ at *
        exact bodyPost_ret (v := nodeV x.1 x.2.1 x.2.2) (by simp [results, Tryz.results137, y0, y1, y2, y3, y4, y5, y6, y7, go_sem]) rfl ⟨x, kr, s5, rfl, hNod, hRS, hOff, Hout.out⟩
      | true =>
        have Hs := Lib.hid (show Out brT (.ok r) (fun x => (S.xTo 4).T = x) s5 from Hs.out)
        go_wp2_with fail
        go_loopg [6] 4 (fun k i wr => ∃ j : Nat, i = .int .i64 j ∧ j + k = 4 ∧ RQ wr p St kr op s5 ∧ BlkX wr w.heap.size (xcell (.mk 0 0 0 0 0 0 0 [], none, 0)).toArray ∧ SetAt wr b1 (S.xTo j) ∧ Off p w wr)
        case atStart => exact ⟨0, rfl, rfl, HRr.out, HNr.out, by rw [xTo_0]; exact HSr.out, HOr.out⟩
        case round =>
          obtain ⟨j, rfl, hj, h4, h5, h6, h7⟩ := hrel
          clear HRr HNr HSr HOr
          have HRr := Lib.hid h4; have HNr := Lib.hid h5; have HSr := Lib.hid h6; have HOr := Lib.hid h7
          have z0 := h6.froz 0; have z1 := h6.froz 1; have z2 := h6.froz 2; have z3 := h6.froz 3
          obtain ⟨f0, f1, f2, f3⟩ := h6.at4
          simp only [Nat.zero_add] at f1 f2 f3
          clear h4 h5 h6 h7
          rcases (show j = 0 ∨ j = 1 ∨ j = 2 ∨ j = 3 ∨ j = 4 by omega) with rfl | rfl | rfl | rfl | rfl
          · simp [W4.xTo] at f0
            go_wp2_with fail
            go_roundg (gk - 1)
            case measure => omega
            case rel => exact ⟨1, by go_num, by omega, HRr.out.put (by omega) 0 _, HNr.out.keep (Below.heap_setCell _ _ _ _ (by show w.heap.size ≠ b1; omega)), (by have h1 := HSr.out.put 0 (by omega) (bits .xor .u64 IntKind.u64.max S.a); rw [xTo_put S 0 (by omega) (bits .xor .u64 IntKind.u64.max S.a) rfl] at h1; exact h1), HOr.out.box (by omega) _ _⟩
          · simp [W4.xTo] at f1
            go_wp2_with fail
            go_roundg (gk - 1)
            case measure => omega
            case rel => exact ⟨2, by go_num, by omega, HRr.out.put (by omega) 1 _, HNr.out.keep (Below.heap_setCell _ _ _ _ (by show w.heap.size ≠ b1; omega)), (by have h1 := HSr.out.put 1 (by omega) (bits .xor .u64 IntKind.u64.max S.b); rw [xTo_put S 1 (by omega) (bits .xor .u64 IntKind.u64.max S.b) rfl] at h1; exact h1), HOr.out.box (by omega) _ _⟩
          · simp [W4.xTo] at f2
            go_wp2_with fail
            go_roundg (gk - 1)
            case measure => omega
            case rel => exact ⟨3, by go_num, by omega, HRr.out.put (by omega) 2 _, HNr.out.keep (Below.heap_setCell _ _ _ _ (by show w.heap.size ≠ b1; omega)), (by have h1 := HSr.out.put 2 (by omega) (bits .xor .u64 IntKind.u64.max S.c); rw [xTo_put S 2 (by omega) (bits .xor .u64 IntKind.u64.max S.c) rfl] at h1; exact h1), HOr.out.box (by omega) _ _⟩
          · simp [W4.xTo] at f3
            go_wp2_with fail
            go_roundg (gk - 1)
            case measure => omega
            case rel => exact ⟨4, by go_num, by omega, HRr.out.put (by omega) 3 _, HNr.out.keep (Below.heap_setCell _ _ _ _ (by show w.heap.size ≠ b1; omega)), (by have h1 := HSr.out.put 3 (by omega) (bits .xor .u64 IntKind.u64.max S.d); rw [xTo_put S 3 (by omega) (bits .xor .u64 IntKind.u64.max S.d) rfl] at h1; exact h1), HOr.out.box (by omega) _ _⟩
          · clear f0 f1 f2 f3 z0 z1 z2 z3
            generalize S.xTo 4 = SX at *
            obtain ⟨f0, f1, f2, f3⟩ := HSr.out.at4
            simp only [Nat.zero_add] at f1 f2 f3
            obtain ⟨⟨r0, r1, r2, r3, r4, r5, r6, r7⟩, hz⟩ := HNr.out.cells8
            have z0 := hz 0; have z1 := hz 1; have z2 := hz 2; have z3 := hz 3; have z4 := hz 4; have z5 := hz 5; have z6 := hz 6; have z7 := hz 7
            have lr := HNr.out.lt
            clear hz
            go_wp2_with fail
            change bodyPost _ _ _ _ _ (writeX wr w.heap.size ((SX.T, none, 0) : Nx))
            generalize hx : ((SX.T, none, 0) : Nx) = x
            have Hx := Lib.hid hx
            clear hx
            have hfin := writeX_blk HNr.out x
            obtain ⟨⟨y0, y1, y2, y3, y4, y5, y6, y7⟩, _⟩ := hfin.cells8
            have hRS := HRr.out.boxX (b := w.heap.size) (by omega) x
            have hOff := Off.boxW HOr.out (Nat.le_refl _) x
            have hNod : NodeAt (writeX wr w.heap.size x) (fun b => w.heap.size ≤ b ∧ b < (writeX wr w.heap.size x).heap.size) x.1 x.2.1 x.2.2 := by rw [← Hx.out]; exact nodeAt_leafX _ _ _ rfl
            have Hout := Lib.hid (show Out brT (.ok r) (fun t => x.1 = t) s5 by rw [← Hx.out]; exact Hs.out)
            generalize writeX wr w.heap.size x = WZ at *
            exact bodyPost_ret (v := nodeV x.1 x.2.1 x.2.2) (by simp [results, Tryz.results137, y0, y1, y2, y3, y4, y5, y6, y7, go_sem]) rfl ⟨x, kr, s5, rfl, hNod, hRS, hOff, Hout.out⟩

set_option maxRecDepth 100000 in
set_option maxHeartbeats 2000000 in
theorem qone_any (w : World) (c : Nat) (hc : c < 256) :
    Calls Tryz.prog 138 #[.int .u8 (c : Int)] w fun en w' => en = .returned (nodeV (w40.add c).T none 0) ∧ Below w.heap.size w w' := by
  go_enter Tryz.func138, Tryz.ntmps138
  go_upto_region 1 with fail
  generalize hW0 : w.alloc _ = W0
  have hB0 : Below w.heap.size w W0 := by subst hW0; exact (Below.refl _ _).alloc (Nat.le_refl _) _
  have hN0 : BlkX W0 w.heap.size (xcell (.mk 0 0 0 0 0 0 0 [], none, 0)).toArray := by subst hW0; exact BlkX.new w _
  clear hW0
  go_wp2_with fail
  refine (qin_any W0 w40 c hc).mono ?_
  rintro en w1 ⟨rfl, hb⟩
  have hN1 := hN0.keep (hb.block _ hN0.lt)
  have hB1 := hB0.step hb
  have HN1 := Lib.hid hN1; have HB1 := Lib.hid hB1
  obtain ⟨⟨r0, r1, r2, r3, r4, r5, r6, r7⟩, hz⟩ := hN1.cells8
  have z0 := hz 0; have z1 := hz 1; have z2 := hz 2; have z3 := hz 3; have z4 := hz 4; have z5 := hz 5; have z6 := hz 6; have z7 := hz 7
  have lr := hN1.lt
  clear hz hN0 hB0 hb hN1 hB1
  generalize hT : w40.add c = T at *
  have HT := Lib.hid hT
  clear hT
  go_wp2_with fail
  change bodyPost _ _ _ _ _ (writeX w1 w.heap.size ((T.T, none, 0) : Nx))
  generalize hx : ((T.T, none, 0) : Nx) = x
  have Hx := Lib.hid hx
  clear hx
  have hfin := writeX_blk HN1.out x
  obtain ⟨⟨y0, y1, y2, y3, y4, y5, y6, y7⟩, _⟩ := hfin.cells8
  have hBB := writeX_below HB1.out (Nat.le_refl _) x
  have HE := Lib.hid (show nodeV x.1 x.2.1 x.2.2 = nodeV T.T none 0 by rw [← Hx.out])
  generalize writeX w1 w.heap.size x = WZ at *
  exact bodyPost_ret (v := nodeV x.1 x.2.1 x.2.2) (by simp [results, Tryz.results138, y0, y1, y2, y3, y4, y5, y6, y7, go_sem]) rfl ⟨by rw [HE.out, HT.out], hBB⟩
end Go.Proofs.YthlakbjnmbddaaaGreatDoor

/- vouchref10's Reader: atom: walked. -/
set_option linter.unusedVariables false
set_option linter.unusedSimpArgs false
namespace Go.Proofs.YthlakbjnmbddaaaGreatDoor
open Go.RowKit

theorem u8_is {c : UInt8} {k : Nat} (hk : k < 256) (h : c = UInt8.ofNat k) : ((c.toNat : Int) == (k : Int)) = true := by
  subst h
  simp [Nat.mod_eq_of_lt hk]
set_option maxRecDepth 100000 in
set_option maxHeartbeats 8000000 in
theorem qatom_any (w : World) (p : Nat) (St : Bs) (k : Nat) (op : Int) (c : UInt8) (t : Bs) (grp : Bs → PT) (h : RQ w p St k op (.ok (c :: t)))
    (hG : ∀ (w : World) (k : Nat) (r : Bs), RQ w p St k op (.ok r) → Calls Tryz.prog 135 #[.pointer (some ⟨p, 0, none⟩)] w fun en w' => QNode p St op grp (.ok r) w en w') :
    Calls Tryz.prog 120 #[.pointer (some ⟨p, 0, none⟩)] w fun en w' => QNode p St op (atomP grp) (.ok (c :: t)) w en w' := by
  have hp := h.lt
  have H := Lib.hid h; have HG := Lib.hid hG
  have hkb : k ≤ 1024 := Nat.le_trans h.rdr.le h.rdr.top
  have hat := h.at_
  have hkS := hat.1
  have hix := hat.2
  have hkI : (k : Int) < (St.length : Int) := by omega
  have sS := bsq_size St
  have hc := c.toNat_lt
  clear h hG hat
  go_enter Tryz.func120, Tryz.ntmps120
  go_upto_region 1 with fail
  generalize hW0 : w.alloc _ = W0
  have hB0 : Below w.heap.size w W0 := by subst hW0; exact (Below.refl _ _).alloc (Nat.le_refl _) _
  have hN0 : BlkX W0 w.heap.size (xcell (.mk 0 0 0 0 0 0 0 [], none, 0)).toArray := by subst hW0; exact BlkX.new w _
  clear hW0
  have h0 := H.out.later hB0
  have c0 := h0.rdr.c0
  have c1 := h0.rdr.c1
  have HRr := Lib.hid h0; have HNr := Lib.hid hN0; have HOr := Lib.hid (Off.of_below (p := p) hB0)
  clear H h0 hN0 hB0
  go_quiet (fail)
  have hb := belowQ W0 nq
  have hR := HRr.out.later hb
  have hO := Off.of_below (p := p) hb
  have hN := HNr.out.keep (hb.block _ HNr.out.lt)
  generalize W0.drewN nq = W1 at *
  have HRr := Lib.hid hR; have HNr := Lib.hid hN; have HOr := Lib.hid (HOr.out.trans hO)
  clear hb hN hO hR c0 c1
  have c1 := HRr.out.rdr.c1
  have y1 := HRr.out.rdr.z 1
  go_upto_region 3 with fail
  have hbx : ∀ hh, (bs St)[k]'hh = c := fun hh => by rw [← hix hkS]; rfl
  rw [hbx]
  have hR := HRr.out.step 1 (by simp)
  rw [show ((1 : Nat) : Int) = 1 from rfl, show (c :: t).drop 1 = t from rfl] at hR
  have hO := (Off.refl p W1).set 1 (.int .i64 ((k : Int) + 1))
  generalize W1.setCell _ _ = W2 at *
  clear c1 y1 hbx hix
  have HNr := Lib.hid (Off.blk hO HNr.out (by omega))
  have HOr := Lib.hid (HOr.out.trans hO)
  have HRr := Lib.hid hR
  clear hO hR
  have hkS : k + 1 ≤ St.length := hkS
  have hlr := HNr.out.lt
  by_cases d40 : c = 40
  · have e40 := u8_is (k := 40) (by omega) d40
    have HA := Lib.hid (show atomP grp (c :: t) = grp t by subst d40; simp [atomP])
    clear d40
    go_wp2_with fail
    refine (HG.out W2 (k + 1) t HRr.out).mono ?_
    rintro en W3 ⟨x, k3, s3, rfl, hx, hR, hO, ho⟩
    have Ho := Lib.hid (show Out (atomP grp) (.ok (c :: t)) (fun t => x.1 = t) s3 by simp only [Out, HA.out] at ho ⊢; exact ho)
    have HX := Lib.hid hx
    clear ho hx
    have HNr := Lib.hid (Off.blk hO HNr.out (by omega))
    have HOr := Lib.hid (HOr.out.trans hO)
    have HRr := Lib.hid hR
    clear hO hR
    obtain ⟨⟨r0, r1, r2, r3, r4, r5, r6, r7⟩, hz⟩ := HNr.out.cells8
    have z0 := hz 0; have z1 := hz 1; have z2 := hz 2; have z3 := hz 3; have z4 := hz 4; have z5 := hz 5; have z6 := hz 6; have z7 := hz 7
    have lr := HNr.out.lt
    clear hz
    go_wp2_with fail
    change bodyPost _ _ _ _ _ (writeX W3 w.heap.size x)
    have hfin := writeX_blk HNr.out x
    obtain ⟨⟨y0, y1, y2, y3, y4, y5, y6, y7⟩, _⟩ := hfin.cells8
    have hRS := HRr.out.boxX (b := w.heap.size) (by omega) x
    have hOff := Off.boxW HOr.out (Nat.le_refl _) x
    have hNod : NodeAt (writeX W3 w.heap.size x) (fun b => w.heap.size ≤ b ∧ b < (writeX W3 w.heap.size x).heap.size) x.1 x.2.1 x.2.2 := HX.out.mono fun k (hk : W2.heap.size ≤ k ∧ k < W3.heap.size) => ⟨⟨by omega, by rw [writeX_size]; exact hk.2⟩, fun o => World.cell?_of_block (w := W3) (a := ⟨k, o, none⟩) (writeX_other _ _ _ _ (show k ≠ w.heap.size by omega))⟩
    generalize writeX W3 w.heap.size x = WZ at *
    exact bodyPost_ret (v := nodeV x.1 x.2.1 x.2.2) (by simp [results, Tryz.results120, y0, y1, y2, y3, y4, y5, y6, y7, go_sem]) rfl ⟨x, k3, s3, rfl, hNod, hRS, hOff, Ho.out⟩
  have n40 := u8_ne (k := 40) (by omega) d40
  by_cases d46 : c = 46
  · have e46 := u8_is (k := 46) (by omega) d46
    have HA := Lib.hid (show atomP grp (c :: t) = .ok ((w40.span 0 256).T, t) by subst d46; simp [atomP])
    clear d46
    go_wp2_with fail
    refine (qall_any W2).mono ?_
    rintro en wo ⟨rfl, hb⟩
    have HNr := Lib.hid (HNr.out.keep (hb.block _ HNr.out.lt))
    have HOr := Lib.hid (HOr.out.trans (Off.of_below (p := p) hb))
    have HRr := Lib.hid (HRr.out.later hb)
    clear hb
    generalize w40.span 0 256 = TA at *
    obtain ⟨⟨r0, r1, r2, r3, r4, r5, r6, r7⟩, hz⟩ := HNr.out.cells8
    have z0 := hz 0; have z1 := hz 1; have z2 := hz 2; have z3 := hz 3; have z4 := hz 4; have z5 := hz 5; have z6 := hz 6; have z7 := hz 7
    have lr := HNr.out.lt
    clear hz
    go_wp2_with fail
    change bodyPost _ _ _ _ _ (writeX wo w.heap.size ((TA.T, none, 0) : Nx))
    generalize hx : ((TA.T, none, 0) : Nx) = x
    have Hx := Lib.hid hx
    clear hx
    have hfin := writeX_blk HNr.out x
    obtain ⟨⟨y0, y1, y2, y3, y4, y5, y6, y7⟩, _⟩ := hfin.cells8
    have hRS := HRr.out.boxX (b := w.heap.size) (by omega) x
    have hOff := Off.boxW HOr.out (Nat.le_refl _) x
    have hNod : NodeAt (writeX wo w.heap.size x) (fun b => w.heap.size ≤ b ∧ b < (writeX wo w.heap.size x).heap.size) x.1 x.2.1 x.2.2 := by rw [← Hx.out]; exact nodeAt_leafX _ _ _ rfl
    have Hout := Lib.hid (show Out (atomP grp) (.ok (c :: t)) (fun t => x.1 = t) (.ok t) by rw [← Hx.out]; exact Out.good HA.out rfl)
    generalize writeX wo w.heap.size x = WZ at *
    exact bodyPost_ret (v := nodeV x.1 x.2.1 x.2.2) (by simp [results, Tryz.results120, y0, y1, y2, y3, y4, y5, y6, y7, go_sem]) rfl ⟨x, k + 1, _, rfl, hNod, hRS, hOff, Hout.out⟩
  have n46 := u8_ne (k := 46) (by omega) d46
  by_cases d94 : c = 94
  · have e94 := u8_is (k := 94) (by omega) d94
    have HA := Lib.hid (show atomP grp (c :: t) = .ok (.mk 2 0 0 0 0 0 0 [], t) by subst d94; simp [atomP])
    clear d94
    obtain ⟨⟨r0, r1, r2, r3, r4, r5, r6, r7⟩, hz⟩ := HNr.out.cells8
    have z0 := hz 0; have z1 := hz 1; have z2 := hz 2; have z3 := hz 3; have z4 := hz 4; have z5 := hz 5; have z6 := hz 6; have z7 := hz 7
    have lr := HNr.out.lt
    clear hz
    go_wp2_with fail
    change bodyPost _ _ _ _ _ (writeX W2 w.heap.size ((.mk 2 0 0 0 0 0 0 [], none, 0) : Nx))
    generalize hx : ((.mk 2 0 0 0 0 0 0 [], none, 0) : Nx) = x
    have Hx := Lib.hid hx
    clear hx
    have hfin := writeX_blk HNr.out x
    obtain ⟨⟨y0, y1, y2, y3, y4, y5, y6, y7⟩, _⟩ := hfin.cells8
    have hRS := HRr.out.boxX (b := w.heap.size) (by omega) x
    have hOff := Off.boxW HOr.out (Nat.le_refl _) x
    have hNod : NodeAt (writeX W2 w.heap.size x) (fun b => w.heap.size ≤ b ∧ b < (writeX W2 w.heap.size x).heap.size) x.1 x.2.1 x.2.2 := by rw [← Hx.out]; exact nodeAt_leafX _ _ _ rfl
    have Hout := Lib.hid (show Out (atomP grp) (.ok (c :: t)) (fun t => x.1 = t) (.ok t) by rw [← Hx.out]; exact Out.good HA.out rfl)
    generalize writeX W2 w.heap.size x = WZ at *
    exact bodyPost_ret (v := nodeV x.1 x.2.1 x.2.2) (by simp [results, Tryz.results120, y0, y1, y2, y3, y4, y5, y6, y7, go_sem]) rfl ⟨x, k + 1, _, rfl, hNod, hRS, hOff, Hout.out⟩
  have n94 := u8_ne (k := 94) (by omega) d94
  by_cases d36 : c = 36
  · have e36 := u8_is (k := 36) (by omega) d36
    have HA := Lib.hid (show atomP grp (c :: t) = .ok (.mk 3 0 0 0 0 0 0 [], t) by subst d36; simp [atomP])
    clear d36
    obtain ⟨⟨r0, r1, r2, r3, r4, r5, r6, r7⟩, hz⟩ := HNr.out.cells8
    have z0 := hz 0; have z1 := hz 1; have z2 := hz 2; have z3 := hz 3; have z4 := hz 4; have z5 := hz 5; have z6 := hz 6; have z7 := hz 7
    have lr := HNr.out.lt
    clear hz
    go_wp2_with fail
    change bodyPost _ _ _ _ _ (writeX W2 w.heap.size ((.mk 3 0 0 0 0 0 0 [], none, 0) : Nx))
    generalize hx : ((.mk 3 0 0 0 0 0 0 [], none, 0) : Nx) = x
    have Hx := Lib.hid hx
    clear hx
    have hfin := writeX_blk HNr.out x
    obtain ⟨⟨y0, y1, y2, y3, y4, y5, y6, y7⟩, _⟩ := hfin.cells8
    have hRS := HRr.out.boxX (b := w.heap.size) (by omega) x
    have hOff := Off.boxW HOr.out (Nat.le_refl _) x
    have hNod : NodeAt (writeX W2 w.heap.size x) (fun b => w.heap.size ≤ b ∧ b < (writeX W2 w.heap.size x).heap.size) x.1 x.2.1 x.2.2 := by rw [← Hx.out]; exact nodeAt_leafX _ _ _ rfl
    have Hout := Lib.hid (show Out (atomP grp) (.ok (c :: t)) (fun t => x.1 = t) (.ok t) by rw [← Hx.out]; exact Out.good HA.out rfl)
    generalize writeX W2 w.heap.size x = WZ at *
    exact bodyPost_ret (v := nodeV x.1 x.2.1 x.2.2) (by simp [results, Tryz.results120, y0, y1, y2, y3, y4, y5, y6, y7, go_sem]) rfl ⟨x, k + 1, _, rfl, hNod, hRS, hOff, Hout.out⟩
  have n36 := u8_ne (k := 36) (by omega) d36
  by_cases d91 : c = 91
  · have e91 := u8_is (k := 91) (by omega) d91
    have HA := Lib.hid (show atomP grp (c :: t) = brT t by subst d91; simp [atomP, brT]; rfl)
    clear d91
    go_wp2_with fail
    refine (qbracket_any W2 p St (k + 1) op t HRr.out).mono ?_
    rintro en W3 ⟨x, k3, s3, rfl, hx, hR, hO, ho⟩
    have Ho := Lib.hid (show Out (atomP grp) (.ok (c :: t)) (fun t => x.1 = t) s3 by simp only [Out, HA.out] at ho ⊢; exact ho)
    have HX := Lib.hid hx
    clear ho hx
    have HNr := Lib.hid (Off.blk hO HNr.out (by omega))
    have HOr := Lib.hid (HOr.out.trans hO)
    have HRr := Lib.hid hR
    clear hO hR
    obtain ⟨⟨r0, r1, r2, r3, r4, r5, r6, r7⟩, hz⟩ := HNr.out.cells8
    have z0 := hz 0; have z1 := hz 1; have z2 := hz 2; have z3 := hz 3; have z4 := hz 4; have z5 := hz 5; have z6 := hz 6; have z7 := hz 7
    have lr := HNr.out.lt
    clear hz
    go_wp2_with fail
    change bodyPost _ _ _ _ _ (writeX W3 w.heap.size x)
    have hfin := writeX_blk HNr.out x
    obtain ⟨⟨y0, y1, y2, y3, y4, y5, y6, y7⟩, _⟩ := hfin.cells8
    have hRS := HRr.out.boxX (b := w.heap.size) (by omega) x
    have hOff := Off.boxW HOr.out (Nat.le_refl _) x
    have hNod : NodeAt (writeX W3 w.heap.size x) (fun b => w.heap.size ≤ b ∧ b < (writeX W3 w.heap.size x).heap.size) x.1 x.2.1 x.2.2 := HX.out.mono fun k (hk : W2.heap.size ≤ k ∧ k < W3.heap.size) => ⟨⟨by omega, by rw [writeX_size]; exact hk.2⟩, fun o => World.cell?_of_block (w := W3) (a := ⟨k, o, none⟩) (writeX_other _ _ _ _ (show k ≠ w.heap.size by omega))⟩
    generalize writeX W3 w.heap.size x = WZ at *
    exact bodyPost_ret (v := nodeV x.1 x.2.1 x.2.2) (by simp [results, Tryz.results120, y0, y1, y2, y3, y4, y5, y6, y7, go_sem]) rfl ⟨x, k3, s3, rfl, hNod, hRS, hOff, Ho.out⟩
  have n91 := u8_ne (k := 91) (by omega) d91
  by_cases d42 : c = 42
  · have e42 := u8_is (k := 42) (by omega) d42
    have HA := Lib.hid (show atomP grp (c :: t) = .error 104 by subst d42; simp [atomP])
    clear d42
    go_wp2_with fail
    refine (qfail_ok 104 (by omega) HRr.out).mono ?_
    rintro en W3 ⟨rfl, hR, hO⟩
    have HNr := Lib.hid (Off.blk hO HNr.out (by omega))
    have HOr := Lib.hid (HOr.out.trans hO)
    have HRr := Lib.hid hR
    clear hO hR
    go_wp2_with fail
    refine (qone_any W3 c.toNat hc).mono ?_
    rintro en wo ⟨rfl, hb⟩
    have HNr := Lib.hid (HNr.out.keep (hb.block _ HNr.out.lt))
    have HOr := Lib.hid (HOr.out.trans (Off.of_below (p := p) hb))
    have HRr := Lib.hid (HRr.out.later hb)
    clear hb
    have HO2 := Lib.hid (show Out (atomP grp) (.ok (c :: t)) (fun t => (w40.add c.toNat).T = t) (.error 104) from Out.bad HA.out)
    generalize w40.add c.toNat = TA at *
    obtain ⟨⟨r0, r1, r2, r3, r4, r5, r6, r7⟩, hz⟩ := HNr.out.cells8
    have z0 := hz 0; have z1 := hz 1; have z2 := hz 2; have z3 := hz 3; have z4 := hz 4; have z5 := hz 5; have z6 := hz 6; have z7 := hz 7
    have lr := HNr.out.lt
    clear hz
    go_wp2_with fail
    change bodyPost _ _ _ _ _ (writeX wo w.heap.size ((TA.T, none, 0) : Nx))
    generalize hx : ((TA.T, none, 0) : Nx) = x
    have Hx := Lib.hid hx
    clear hx
    have hfin := writeX_blk HNr.out x
    obtain ⟨⟨y0, y1, y2, y3, y4, y5, y6, y7⟩, _⟩ := hfin.cells8
    have hRS := HRr.out.boxX (b := w.heap.size) (by omega) x
    have hOff := Off.boxW HOr.out (Nat.le_refl _) x
    have hNod : NodeAt (writeX wo w.heap.size x) (fun b => w.heap.size ≤ b ∧ b < (writeX wo w.heap.size x).heap.size) x.1 x.2.1 x.2.2 := by rw [← Hx.out]; exact nodeAt_leafX _ _ _ rfl
    have Hout := Lib.hid (show Out (atomP grp) (.ok (c :: t)) (fun t => x.1 = t) (.error 104) by rw [← Hx.out]; exact HO2.out)
    generalize writeX wo w.heap.size x = WZ at *
    exact bodyPost_ret (v := nodeV x.1 x.2.1 x.2.2) (by simp [results, Tryz.results120, y0, y1, y2, y3, y4, y5, y6, y7, go_sem]) rfl ⟨x, k + 1, .error 104, rfl, hNod, hRS, hOff, Hout.out⟩
  have n42 := u8_ne (k := 42) (by omega) d42
  by_cases d43 : c = 43
  · have e43 := u8_is (k := 43) (by omega) d43
    have HA := Lib.hid (show atomP grp (c :: t) = .error 104 by subst d43; simp [atomP])
    clear d43
    go_wp2_with fail
    refine (qfail_ok 104 (by omega) HRr.out).mono ?_
    rintro en W3 ⟨rfl, hR, hO⟩
    have HNr := Lib.hid (Off.blk hO HNr.out (by omega))
    have HOr := Lib.hid (HOr.out.trans hO)
    have HRr := Lib.hid hR
    clear hO hR
    go_wp2_with fail
    refine (qone_any W3 c.toNat hc).mono ?_
    rintro en wo ⟨rfl, hb⟩
    have HNr := Lib.hid (HNr.out.keep (hb.block _ HNr.out.lt))
    have HOr := Lib.hid (HOr.out.trans (Off.of_below (p := p) hb))
    have HRr := Lib.hid (HRr.out.later hb)
    clear hb
    have HO2 := Lib.hid (show Out (atomP grp) (.ok (c :: t)) (fun t => (w40.add c.toNat).T = t) (.error 104) from Out.bad HA.out)
    generalize w40.add c.toNat = TA at *
    obtain ⟨⟨r0, r1, r2, r3, r4, r5, r6, r7⟩, hz⟩ := HNr.out.cells8
    have z0 := hz 0; have z1 := hz 1; have z2 := hz 2; have z3 := hz 3; have z4 := hz 4; have z5 := hz 5; have z6 := hz 6; have z7 := hz 7
    have lr := HNr.out.lt
    clear hz
    go_wp2_with fail
    change bodyPost _ _ _ _ _ (writeX wo w.heap.size ((TA.T, none, 0) : Nx))
    generalize hx : ((TA.T, none, 0) : Nx) = x
    have Hx := Lib.hid hx
    clear hx
    have hfin := writeX_blk HNr.out x
    obtain ⟨⟨y0, y1, y2, y3, y4, y5, y6, y7⟩, _⟩ := hfin.cells8
    have hRS := HRr.out.boxX (b := w.heap.size) (by omega) x
    have hOff := Off.boxW HOr.out (Nat.le_refl _) x
    have hNod : NodeAt (writeX wo w.heap.size x) (fun b => w.heap.size ≤ b ∧ b < (writeX wo w.heap.size x).heap.size) x.1 x.2.1 x.2.2 := by rw [← Hx.out]; exact nodeAt_leafX _ _ _ rfl
    have Hout := Lib.hid (show Out (atomP grp) (.ok (c :: t)) (fun t => x.1 = t) (.error 104) by rw [← Hx.out]; exact HO2.out)
    generalize writeX wo w.heap.size x = WZ at *
    exact bodyPost_ret (v := nodeV x.1 x.2.1 x.2.2) (by simp [results, Tryz.results120, y0, y1, y2, y3, y4, y5, y6, y7, go_sem]) rfl ⟨x, k + 1, .error 104, rfl, hNod, hRS, hOff, Hout.out⟩
  have n43 := u8_ne (k := 43) (by omega) d43
  by_cases d63 : c = 63
  · have e63 := u8_is (k := 63) (by omega) d63
    have HA := Lib.hid (show atomP grp (c :: t) = .error 104 by subst d63; simp [atomP])
    clear d63
    go_wp2_with fail
    refine (qfail_ok 104 (by omega) HRr.out).mono ?_
    rintro en W3 ⟨rfl, hR, hO⟩
    have HNr := Lib.hid (Off.blk hO HNr.out (by omega))
    have HOr := Lib.hid (HOr.out.trans hO)
    have HRr := Lib.hid hR
    clear hO hR
    go_wp2_with fail
    refine (qone_any W3 c.toNat hc).mono ?_
    rintro en wo ⟨rfl, hb⟩
    have HNr := Lib.hid (HNr.out.keep (hb.block _ HNr.out.lt))
    have HOr := Lib.hid (HOr.out.trans (Off.of_below (p := p) hb))
    have HRr := Lib.hid (HRr.out.later hb)
    clear hb
    have HO2 := Lib.hid (show Out (atomP grp) (.ok (c :: t)) (fun t => (w40.add c.toNat).T = t) (.error 104) from Out.bad HA.out)
    generalize w40.add c.toNat = TA at *
    obtain ⟨⟨r0, r1, r2, r3, r4, r5, r6, r7⟩, hz⟩ := HNr.out.cells8
    have z0 := hz 0; have z1 := hz 1; have z2 := hz 2; have z3 := hz 3; have z4 := hz 4; have z5 := hz 5; have z6 := hz 6; have z7 := hz 7
    have lr := HNr.out.lt
    clear hz
    go_wp2_with fail
    change bodyPost _ _ _ _ _ (writeX wo w.heap.size ((TA.T, none, 0) : Nx))
    generalize hx : ((TA.T, none, 0) : Nx) = x
    have Hx := Lib.hid hx
    clear hx
    have hfin := writeX_blk HNr.out x
    obtain ⟨⟨y0, y1, y2, y3, y4, y5, y6, y7⟩, _⟩ := hfin.cells8
    have hRS := HRr.out.boxX (b := w.heap.size) (by omega) x
    have hOff := Off.boxW HOr.out (Nat.le_refl _) x
    have hNod : NodeAt (writeX wo w.heap.size x) (fun b => w.heap.size ≤ b ∧ b < (writeX wo w.heap.size x).heap.size) x.1 x.2.1 x.2.2 := by rw [← Hx.out]; exact nodeAt_leafX _ _ _ rfl
    have Hout := Lib.hid (show Out (atomP grp) (.ok (c :: t)) (fun t => x.1 = t) (.error 104) by rw [← Hx.out]; exact HO2.out)
    generalize writeX wo w.heap.size x = WZ at *
    exact bodyPost_ret (v := nodeV x.1 x.2.1 x.2.2) (by simp [results, Tryz.results120, y0, y1, y2, y3, y4, y5, y6, y7, go_sem]) rfl ⟨x, k + 1, .error 104, rfl, hNod, hRS, hOff, Hout.out⟩
  have n63 := u8_ne (k := 63) (by omega) d63
  by_cases d123 : c = 123
  · have e123 := u8_is (k := 123) (by omega) d123
    have HA := Lib.hid (show atomP grp (c :: t) = .error 104 by subst d123; simp [atomP])
    clear d123
    go_wp2_with fail
    refine (qfail_ok 104 (by omega) HRr.out).mono ?_
    rintro en W3 ⟨rfl, hR, hO⟩
    have HNr := Lib.hid (Off.blk hO HNr.out (by omega))
    have HOr := Lib.hid (HOr.out.trans hO)
    have HRr := Lib.hid hR
    clear hO hR
    go_wp2_with fail
    refine (qone_any W3 c.toNat hc).mono ?_
    rintro en wo ⟨rfl, hb⟩
    have HNr := Lib.hid (HNr.out.keep (hb.block _ HNr.out.lt))
    have HOr := Lib.hid (HOr.out.trans (Off.of_below (p := p) hb))
    have HRr := Lib.hid (HRr.out.later hb)
    clear hb
    have HO2 := Lib.hid (show Out (atomP grp) (.ok (c :: t)) (fun t => (w40.add c.toNat).T = t) (.error 104) from Out.bad HA.out)
    generalize w40.add c.toNat = TA at *
    obtain ⟨⟨r0, r1, r2, r3, r4, r5, r6, r7⟩, hz⟩ := HNr.out.cells8
    have z0 := hz 0; have z1 := hz 1; have z2 := hz 2; have z3 := hz 3; have z4 := hz 4; have z5 := hz 5; have z6 := hz 6; have z7 := hz 7
    have lr := HNr.out.lt
    clear hz
    go_wp2_with fail
    change bodyPost _ _ _ _ _ (writeX wo w.heap.size ((TA.T, none, 0) : Nx))
    generalize hx : ((TA.T, none, 0) : Nx) = x
    have Hx := Lib.hid hx
    clear hx
    have hfin := writeX_blk HNr.out x
    obtain ⟨⟨y0, y1, y2, y3, y4, y5, y6, y7⟩, _⟩ := hfin.cells8
    have hRS := HRr.out.boxX (b := w.heap.size) (by omega) x
    have hOff := Off.boxW HOr.out (Nat.le_refl _) x
    have hNod : NodeAt (writeX wo w.heap.size x) (fun b => w.heap.size ≤ b ∧ b < (writeX wo w.heap.size x).heap.size) x.1 x.2.1 x.2.2 := by rw [← Hx.out]; exact nodeAt_leafX _ _ _ rfl
    have Hout := Lib.hid (show Out (atomP grp) (.ok (c :: t)) (fun t => x.1 = t) (.error 104) by rw [← Hx.out]; exact HO2.out)
    generalize writeX wo w.heap.size x = WZ at *
    exact bodyPost_ret (v := nodeV x.1 x.2.1 x.2.2) (by simp [results, Tryz.results120, y0, y1, y2, y3, y4, y5, y6, y7, go_sem]) rfl ⟨x, k + 1, .error 104, rfl, hNod, hRS, hOff, Hout.out⟩
  have n123 := u8_ne (k := 123) (by omega) d123
  by_cases d92 : c = 92
  · have e92 := u8_is (k := 92) (by omega) d92
    have Hd := Lib.hid (done_q HRr.out)
    cases t with
    | nil =>
      have HA := Lib.hid (show atomP grp [c] = .error 106 by subst d92; simp [atomP])
      clear d92
      go_wp2_with fail
      refine Hd.out.mono ?_
      rintro en W3 ⟨rfl, hR, hO⟩
      rw [show doneS (.ok []) = true from rfl]
      clear Hd
      have HNr := Lib.hid (Off.blk hO HNr.out (by omega))
      have HOr := Lib.hid (HOr.out.trans hO)
      have HRr := Lib.hid hR
      clear hO hR
      go_wp2_with fail
      refine (qfail_ok 106 (by omega) HRr.out).mono ?_
      rintro en W4 ⟨rfl, hR, hO⟩
      have HNr := Lib.hid (Off.blk hO HNr.out (by omega))
      have HOr := Lib.hid (HOr.out.trans hO)
      have HRr := Lib.hid hR
      clear hO hR
      obtain ⟨⟨r0, r1, r2, r3, r4, r5, r6, r7⟩, hz⟩ := HNr.out.cells8
      have z0 := hz 0; have z1 := hz 1; have z2 := hz 2; have z3 := hz 3; have z4 := hz 4; have z5 := hz 5; have z6 := hz 6; have z7 := hz 7
      have lr := HNr.out.lt
      clear hz
      go_wp2_with fail
      change bodyPost _ _ _ _ _ (writeX W4 w.heap.size ((.mk 0 0 0 0 0 0 0 [], none, 0) : Nx))
      generalize hx : ((.mk 0 0 0 0 0 0 0 [], none, 0) : Nx) = x
      have Hx := Lib.hid hx
      clear hx
      have hfin := writeX_blk HNr.out x
      obtain ⟨⟨y0, y1, y2, y3, y4, y5, y6, y7⟩, _⟩ := hfin.cells8
      have hRS := HRr.out.boxX (b := w.heap.size) (by omega) x
      have hOff := Off.boxW HOr.out (Nat.le_refl _) x
      have hNod : NodeAt (writeX W4 w.heap.size x) (fun b => w.heap.size ≤ b ∧ b < (writeX W4 w.heap.size x).heap.size) x.1 x.2.1 x.2.2 := by rw [← Hx.out]; exact nodeAt_leafX _ _ _ rfl
      have Hout := Lib.hid (show Out (atomP grp) (.ok [c]) (fun t => x.1 = t) (.error 106) from Out.bad HA.out)
      generalize writeX W4 w.heap.size x = WZ at *
      exact bodyPost_ret (v := nodeV x.1 x.2.1 x.2.2) (by simp [results, Tryz.results120, y0, y1, y2, y3, y4, y5, y6, y7, go_sem]) rfl ⟨x, k + 1, _, rfl, hNod, hRS, hOff, Hout.out⟩
    | cons c2 t2 =>
      have HA := Lib.hid (show atomP grp (c :: c2 :: t2) = .ok ((w40.add c2.toNat).T, t2) by subst d92; simp [atomP])
      clear d92
      go_wp2_with fail
      refine Hd.out.mono ?_
      rintro en W3 ⟨rfl, hR, hO⟩
      rw [show doneS (.ok (c2 :: t2)) = false from rfl]
      clear Hd
      have HNr := Lib.hid (Off.blk hO HNr.out (by omega))
      have HOr := Lib.hid (HOr.out.trans hO)
      have HRr := Lib.hid hR
      clear hO hR
      have hat2 := HRr.out.at_
      have hkS2 := hat2.1
      have hix2 := hat2.2
      have hkI2 : (k : Int) + 1 < (St.length : Int) := by omega
      have hcc2 := c2.toNat_lt
      obtain ⟨k2, hk2⟩ : ∃ k2, k2 = k + 1 := ⟨_, rfl⟩
      rw [← hk2] at HRr
      have c0 := HRr.out.rdr.c0
      have c1 := HRr.out.rdr.c1
      have hk2b : k2 ≤ 1024 := Nat.le_trans HRr.out.rdr.le HRr.out.rdr.top
      have hkI3 : (k2 : Int) < (St.length : Int) := by omega
      have hbx : ∀ hh, (bs St)[k2]'hh = c2 := fun hh => by subst hk2; rw [← hix2 hkS2]; rfl
      clear hat2 hix2 hk2 hkI2 hkS2
      go_upto_region 23 with fail
      go_quiet (fail)
      have hb := belowQ W3 nq
      generalize W3.drewN nq = W5 at *
      clear c0 c1
      have HNr := Lib.hid (HNr.out.keep (hb.block _ HNr.out.lt))
      have HOr := Lib.hid (HOr.out.trans (Off.of_below (p := p) hb))
      have HRr := Lib.hid (HRr.out.later hb)
      clear hb
      have c1 := HRr.out.rdr.c1
      have y1 := HRr.out.rdr.z 1
      go_upto_region 25 with fail
      try rw [hbx]
      have hR := HRr.out.step 1 (by simp)
      rw [show ((1 : Nat) : Int) = 1 from rfl, show (c2 :: t2).drop 1 = t2 from rfl] at hR
      have hO := (Off.refl p W5).set 1 (.int .i64 ((k2 : Int) + 1))
      generalize W5.setCell _ _ = W6 at *
      clear c1 y1 hbx
      have HNr := Lib.hid (Off.blk hO HNr.out (by omega))
      have HOr := Lib.hid (HOr.out.trans hO)
      have HRr := Lib.hid hR
      clear hO hR
      go_wp2_with fail
      refine (qone_any W6 c2.toNat hcc2).mono ?_
      rintro en wo ⟨rfl, hb⟩
      have HNr := Lib.hid (HNr.out.keep (hb.block _ HNr.out.lt))
      have HOr := Lib.hid (HOr.out.trans (Off.of_below (p := p) hb))
      have HRr := Lib.hid (HRr.out.later hb)
      clear hb
      have HO2 := Lib.hid (show Out (atomP grp) (.ok (c :: c2 :: t2)) (fun t => (w40.add c2.toNat).T = t) (.ok t2) from Out.good HA.out rfl)
      generalize w40.add c2.toNat = TA at *
      obtain ⟨⟨r0, r1, r2, r3, r4, r5, r6, r7⟩, hz⟩ := HNr.out.cells8
      have z0 := hz 0; have z1 := hz 1; have z2 := hz 2; have z3 := hz 3; have z4 := hz 4; have z5 := hz 5; have z6 := hz 6; have z7 := hz 7
      have lr := HNr.out.lt
      clear hz
      go_wp2_with fail
      change bodyPost _ _ _ _ _ (writeX wo w.heap.size ((TA.T, none, 0) : Nx))
      generalize hx : ((TA.T, none, 0) : Nx) = x
      have Hx := Lib.hid hx
      clear hx
      have hfin := writeX_blk HNr.out x
      obtain ⟨⟨y0, y1, y2, y3, y4, y5, y6, y7⟩, _⟩ := hfin.cells8
      have hRS := HRr.out.boxX (b := w.heap.size) (by omega) x
      have hOff := Off.boxW HOr.out (Nat.le_refl _) x
      have hNod : NodeAt (writeX wo w.heap.size x) (fun b => w.heap.size ≤ b ∧ b < (writeX wo w.heap.size x).heap.size) x.1 x.2.1 x.2.2 := by rw [← Hx.out]; exact nodeAt_leafX _ _ _ rfl
      have Hout := Lib.hid (show Out (atomP grp) (.ok (c :: c2 :: t2)) (fun t => x.1 = t) (.ok t2) by rw [← Hx.out]; exact HO2.out)
      generalize writeX wo w.heap.size x = WZ at *
      exact bodyPost_ret (v := nodeV x.1 x.2.1 x.2.2) (by simp [results, Tryz.results120, y0, y1, y2, y3, y4, y5, y6, y7, go_sem]) rfl ⟨x, k2 + 1, .ok t2, rfl, hNod, hRS, hOff, Hout.out⟩
  have n92 := u8_ne (k := 92) (by omega) d92
  have HA := Lib.hid (show atomP grp (c :: t) = .ok ((w40.add c.toNat).T, t) by simp [atomP, d40, d46, d94, d36, d91, d42, d43, d63, d123, d92])
  clear d40 d46 d94 d36 d91 d42 d43 d63 d123 d92
  go_wp2_with fail
  refine (qone_any W2 c.toNat hc).mono ?_
  rintro en wo ⟨rfl, hb⟩
  have HNr := Lib.hid (HNr.out.keep (hb.block _ HNr.out.lt))
  have HOr := Lib.hid (HOr.out.trans (Off.of_below (p := p) hb))
  have HRr := Lib.hid (HRr.out.later hb)
  clear hb
  have HO2 := Lib.hid (show Out (atomP grp) (.ok (c :: t)) (fun t => (w40.add c.toNat).T = t) (.ok t) from Out.good HA.out rfl)
  generalize w40.add c.toNat = TA at *
  obtain ⟨⟨r0, r1, r2, r3, r4, r5, r6, r7⟩, hz⟩ := HNr.out.cells8
  have z0 := hz 0; have z1 := hz 1; have z2 := hz 2; have z3 := hz 3; have z4 := hz 4; have z5 := hz 5; have z6 := hz 6; have z7 := hz 7
  have lr := HNr.out.lt
  clear hz
  go_wp2_with fail
  change bodyPost _ _ _ _ _ (writeX wo w.heap.size ((TA.T, none, 0) : Nx))
  generalize hx : ((TA.T, none, 0) : Nx) = x
  have Hx := Lib.hid hx
  clear hx
  have hfin := writeX_blk HNr.out x
  obtain ⟨⟨y0, y1, y2, y3, y4, y5, y6, y7⟩, _⟩ := hfin.cells8
  have hRS := HRr.out.boxX (b := w.heap.size) (by omega) x
  have hOff := Off.boxW HOr.out (Nat.le_refl _) x
  have hNod : NodeAt (writeX wo w.heap.size x) (fun b => w.heap.size ≤ b ∧ b < (writeX wo w.heap.size x).heap.size) x.1 x.2.1 x.2.2 := by rw [← Hx.out]; exact nodeAt_leafX _ _ _ rfl
  have Hout := Lib.hid (show Out (atomP grp) (.ok (c :: t)) (fun t => x.1 = t) (.ok t) by rw [← Hx.out]; exact HO2.out)
  generalize writeX wo w.heap.size x = WZ at *
  exact bodyPost_ret (v := nodeV x.1 x.2.1 x.2.2) (by simp [results, Tryz.results120, y0, y1, y2, y3, y4, y5, y6, y7, go_sem]) rfl ⟨x, k + 1, .ok t, rfl, hNod, hRS, hOff, Hout.out⟩
end Go.Proofs.YthlakbjnmbddaaaGreatDoor

/- vouchref10's Reader: lists of nodes; piece: walked. -/
set_option linter.unusedVariables false
set_option linter.unusedSimpArgs false
namespace Go.Proofs.YthlakbjnmbddaaaGreatDoor
open Go.RowKit

theorem rq_kept {w w' : World} {p : Nat} {S : Bs} {k : Nat} {op : Int} {s : Rs} (h : RQ w p S k op s) (hz : w.heap.size ≤ w'.heap.size) (hb : w'.heap[p]? = w.heap[p]?) : RQ w' p S k op s :=
  ⟨⟨(World.cell?_of_block (w := w) hb).trans h.rdr.c0, (World.cell?_of_block (w := w) hb).trans h.rdr.c1, (World.cell?_of_block (w := w) hb).trans h.rdr.c2, (World.cell?_of_block (w := w) hb).trans h.rdr.c3, fun o => (World.frozen?_of_block (w := w) (a := ⟨p, o, none⟩) hb).trans (h.rdr.z o), Nat.lt_of_lt_of_le h.lt hz, h.rdr.le, h.rdr.top⟩, h.ok, h.ne⟩
/-- Where the loop of piece stands. -/
def PieceIq (p : Nat) (St : Bs) (op : Int) (grp : Bs → PT) (r0 : Bs) (w : World) (bn : Nat) (wr : World) (n : Nat) : Prop :=
  ∃ (x : Nx) (k' : Nat) (s' : Rs), n = s'.rest.length + 1 ∧ BlkX wr w.heap.size (xcell (.mk 0 0 0 0 0 0 0 [], none, 0)).toArray ∧ BlkX wr bn (xcell x).toArray ∧ NodeAt wr (fun b => w.heap.size < b ∧ b < wr.heap.size ∧ b ≠ bn) x.1 x.2.1 x.2.2 ∧ RQ wr p St k' op s' ∧ Off p w wr ∧
    ((∃ e, s' = .error e ∧ pieceP grp r0 = .error e) ∨ ∃ r' k, s' = .ok r' ∧ r'.length < k ∧ pieceP grp r0 = sufP k x.1 r')
/-- Within a round of piece: the new node's box, what it may become. -/
structure PieceQ (p : Nat) (St : Bs) (op : Int) (w : World) (bx bn : Nat) (t : T) (A : Option Addr) (c : Nat) (mm mx : Int) (k : Nat) (s : Rs) (W : World) : Prop where
  R : BlkX W w.heap.size (xcell (.mk 0 0 0 0 0 0 0 [], none, 0)).toArray
  N : BlkX W bn (xcell (t, A, c)).toArray
  X : BlkX W bx (xcell (.mk 6 0 0 0 0 mm mx [], none, 0)).toArray
  x : NodeAt W (fun b => w.heap.size < b ∧ b < bx ∧ b ≠ bn) t A c
  S : RQ W p St k op s
  O : Off p w W
theorem PieceQ.off {p : Nat} {St : Bs} {op : Int} {w : World} {bx bn : Nat} {t : T} {A : Option Addr} {c : Nat} {mm mx : Int} {k k1 : Nat} {s : Rs} {W : World} (h : PieceQ p St op w bx bn t A c mm mx k s W) {s' : Rs} {W' : World} (hp : p < w.heap.size) (hbn : w.heap.size < bn) (hwr : bn < bx) (hO : Off p W W') (hS : RQ W' p St k1 op s') : PieceQ p St op w bx bn t A c mm mx k1 s' W' := by
  have lx := h.X.lt
  exact ⟨Off.blk hO h.R (by omega), Off.blk hO h.N (by omega), Off.blk hO h.X (by omega), h.x.mono fun b (hb : w.heap.size < b ∧ b < bx ∧ b ≠ bn) => ⟨hb, fun o => Off.cell hO (by omega) (by omega)⟩, hS, Off.trans h.O hO⟩
theorem PieceQ.put {p : Nat} {St : Bs} {op : Int} {w : World} {bx bn : Nat} {t : T} {A : Option Addr} {c : Nat} {mm mx m' n' : Int} {k : Nat} {s : Rs} {W : World} (h : PieceQ p St op w bx bn t A c mm mx k s W) (hp : p < w.heap.size) (hbn : w.heap.size < bn) (hwr : bn < bx) (o : Nat) (v : Value)
    (hX : BlkX (W.setCell ⟨bx, o, none⟩ v) bx (xcell (.mk 6 0 0 0 0 m' n' [], none, 0)).toArray) : PieceQ p St op w bx bn t A c m' n' k s (W.setCell ⟨bx, o, none⟩ v) := by
  have hk : ∀ b, b ≠ bx → (W.setCell ⟨bx, o, none⟩ v).heap[b]? = W.heap[b]? := fun b hb => Below.heap_setCell _ _ _ _ hb
  exact ⟨h.R.keep (hk _ (by omega)), h.N.keep (hk _ (by omega)), hX, h.x.mono fun b (hb : w.heap.size < b ∧ b < bx ∧ b ≠ bn) => ⟨hb, fun o => World.cell?_of_block (w := W) (a := ⟨b, o, none⟩) (hk b (by omega))⟩, h.S.put (by omega) _ _, h.O.box (by omega) _ _⟩
theorem PieceQ.set5 {p : Nat} {St : Bs} {op : Int} {w : World} {bx bn : Nat} {t : T} {A : Option Addr} {c : Nat} {mm mx : Int} {k : Nat} {s : Rs} {W : World} (h : PieceQ p St op w bx bn t A c mm mx k s W) (hp : p < w.heap.size) (hbn : w.heap.size < bn) (hwr : bn < bx) (m' : Int) : PieceQ p St op w bx bn t A c m' mx k s (W.setCell ⟨bx, 5, none⟩ (.int .i64 m')) := by
  refine h.put hp hbn hwr 5 _ ?_
  have h1 := h.X.set 5 (.int .i64 m')
  simpa [xcell, T.k, T.s0, T.s1, T.s2, T.s3, T.mn, T.mx, T.ps] using h1
theorem PieceQ.set6 {p : Nat} {St : Bs} {op : Int} {w : World} {bx bn : Nat} {t : T} {A : Option Addr} {c : Nat} {mm mx : Int} {k : Nat} {s : Rs} {W : World} (h : PieceQ p St op w bx bn t A c mm mx k s W) (hp : p < w.heap.size) (hbn : w.heap.size < bn) (hwr : bn < bx) (m' : Int) : PieceQ p St op w bx bn t A c mm m' k s (W.setCell ⟨bx, 6, none⟩ (.int .i64 m')) := by
  refine h.put hp hbn hwr 6 _ ?_
  have h1 := h.X.set 6 (.int .i64 m')
  simpa [xcell, T.k, T.s0, T.s1, T.s2, T.s3, T.mn, T.mx, T.ps] using h1
/-- Behind the append: the new node's parts lie in a row of their own. -/
structure PieceZ (p : Nat) (St : Bs) (op : Int) (w : World) (bx bn : Nat) (t : T) (A : Option Addr) (c : Nat) (mm mx : Int) (k : Nat) (s : Rs) (A5 : Option Addr) (c5 : Nat) (W : World) : Prop where
  R : BlkX W w.heap.size (xcell (.mk 0 0 0 0 0 0 0 [], none, 0)).toArray
  N : BlkX W bn (xcell (t, A, c)).toArray
  X : BlkX W bx (xcell (.mk 6 0 0 0 0 mm mx [], none, 0)).toArray
  node : ∀ m n, NodeAt W (fun b => w.heap.size < b ∧ b < W.heap.size ∧ b ≠ bn ∧ b ≠ bx) (repT m n t) A5 c5
  S : RQ W p St k op s
  O : Off p w W
theorem PieceQ.push {p : Nat} {St : Bs} {op : Int} {w : World} {bx bn : Nat} {t : T} {A A5 : Option Addr} {c c5 : Nat} {mm mx : Int} {k : Nat} {s : Rs} {W w0 w5 : World} (h : PieceQ p St op w bx bn t A c mm mx k s W) (hp : p < w.heap.size) (hbn : w.heap.size < bn) (hwr : bn < bx)
    (h0 : Below W.heap.size W w0) (h1 : w5.ownsRow (bx + 1) 48 8 (.slice A5 1 c5) 1 (xcell (t, A, c))) (h2 : w0.grownBy w5 none) : PieceZ p St op w bx bn t A c mm mx k s A5 c5 w5 := by
  have lx := h.X.lt
  have hz0 := h0.size
  have hz2 := h2.size
  have hblk : ∀ b, b < W.heap.size → w5.heap[b]? = W.heap[b]? := fun b hb => (h2.block b (by omega) (by simp)).trans (h0.block b hb)
  refine ⟨h.R.keep (hblk _ h.R.lt), h.N.keep (hblk _ h.N.lt), h.X.keep (hblk _ h.X.lt), fun m n => ?_, rq_kept h.S (by omega) (hblk p h.S.lt), ?_⟩
  · obtain ⟨g, hA, hg0, hg, hc⟩ : ∃ g, A5 = some ⟨g, 0, none⟩ ∧ bx + 1 ≤ g ∧ g < w5.heap.size ∧ 1 ≤ c5 := by
      rcases h1.2 with ⟨_, h0⟩ | ⟨g, cap, cur, e, hb, hh, hcap, _⟩
      · simp at h0
      · simp only [Value.slice.injEq] at e
        exact ⟨g, e.1, hb, by (rcases Nat.lt_or_ge g w5.heap.size with h' | h'; exact h'; rw [Array.getElem?_eq_none h'] at hh; simp at hh), by omega⟩
    subst hA
    have h8 : At8 w5 g (0 * 8) t A c := At8.ofX (x := (t, A, c)) fun j hj => by
      rw [h1.cellAt (0 * 8 + j) (by omega)]
      simp
    have hx : NodeAt w5 (fun b => w.heap.size < b ∧ b < w5.heap.size ∧ b ≠ bn ∧ b ≠ bx) t A c := h.x.mono fun b hb => ⟨⟨hb.1, by omega, hb.2.2, by omega⟩, fun o => World.cell?_of_block (w := W) (a := ⟨b, o, none⟩) (hblk b (by omega))⟩
    have hm := node_litX (W := w5) (ok := fun b => w.heap.size < b ∧ b < w5.heap.size ∧ b ≠ bn ∧ b ≠ bx) (g := g) (repT m n t) [(t, A, c)] rfl (by simp) ⟨by omega, hg, by omega, by omega⟩ (getX1 h8) (getX1 hx)
    exact hm.widerX (by simp only [repT, T.ps, List.length_cons, List.length_nil]; omega)
  · have hO := h.O
    have hzW := hO.size
    exact ⟨(h2.os.trans h0.os).trans hO.os, (h2.tape.trans h0.tape).trans hO.tape, (h2.output.trans h0.output).trans hO.output, by omega, fun k hk hkp => (hblk k (by omega)).trans (hO.block k hk hkp)⟩
/-- The round's end: the new node is the node. -/
theorem PieceZ.done {p : Nat} {St : Bs} {op : Int} {w : World} {bx bn : Nat} {t : T} {A A5 : Option Addr} {c c5 : Nat} {mm mx : Int} {k : Nat} {s : Rs} {W : World} (h : PieceZ p St op w bx bn t A c mm mx k s A5 c5 W) (hp : p < w.heap.size) (hbn : w.heap.size < bn) (hwr : bn < bx) :
    BlkX (W.setCell ⟨bx, 7, none⟩ (.slice A5 1 c5)) bx (xcell (repT mm mx t, A5, c5)).toArray ∧ BlkX (W.setCell ⟨bx, 7, none⟩ (.slice A5 1 c5)) bn (xcell (t, A, c)).toArray ∧
    (fun W' => BlkX W' w.heap.size (xcell (.mk 0 0 0 0 0 0 0 [], none, 0)).toArray ∧ BlkX W' bn (xcell (repT mm mx t, A5, c5)).toArray ∧ NodeAt W' (fun b => w.heap.size < b ∧ b < W'.heap.size ∧ b ≠ bn) (repT mm mx t) A5 c5 ∧ RQ W' p St k op s ∧ Off p w W') (writeX (W.setCell ⟨bx, 7, none⟩ (.slice A5 1 c5)) bn (repT mm mx t, A5, c5)) := by
  have lx := h.X.lt
  have hk : ∀ b, b ≠ bx → (W.setCell ⟨bx, 7, none⟩ (.slice A5 1 c5)).heap[b]? = W.heap[b]? := fun b hb => Below.heap_setCell _ _ _ _ hb
  have hX : BlkX (W.setCell ⟨bx, 7, none⟩ (.slice A5 1 c5)) bx (xcell (repT mm mx t, A5, c5)).toArray := by
    have h1 := h.X.set 7 (.slice A5 1 c5)
    simpa [xcell, repT, T.k, T.s0, T.s1, T.s2, T.s3, T.mn, T.mx, T.ps] using h1
  have hN := h.N.keep (hk _ (by omega))
  refine ⟨hX, hN, (h.R.keep (hk _ (by omega))).keep (writeX_other _ _ _ _ (by omega)), writeX_blk hN _, (h.node mm mx).mono fun b (hb : w.heap.size < b ∧ b < W.heap.size ∧ b ≠ bn ∧ b ≠ bx) => ⟨⟨hb.1, by rw [writeX_size]; simpa using hb.2.1, hb.2.2.1⟩, fun o => ?_⟩, (h.S.put (by omega) _ _).boxX (by omega) _, Off.boxW (h.O.box (by omega) _ _) (by omega) _⟩
  exact (World.cell?_of_block (w := W.setCell ⟨bx, 7, none⟩ (.slice A5 1 c5)) (a := ⟨b, o, none⟩) (writeX_other _ _ _ _ hb.2.2.1)).trans (World.cell?_of_block (w := W) (a := ⟨b, o, none⟩) (hk b hb.2.2.2))
theorem piece_first {grp : Bs → PT} {r : Bs} {e : Int} (h : atomP grp r = .error e) : pieceP grp r = .error e := by simp only [pieceP, h]
set_option maxRecDepth 100000 in
set_option maxHeartbeats 8000000 in
theorem qpiece_any (w : World) (p : Nat) (St : Bs) (k0 : Nat) (op : Int) (cc : UInt8) (tt : Bs) (grp : Bs → PT) (h : RQ w p St k0 op (.ok (cc :: tt)))
    (hG : ∀ (w : World) (k : Nat) (r : Bs), RQ w p St k op (.ok r) → Calls Tryz.prog 135 #[.pointer (some ⟨p, 0, none⟩)] w fun en w' => QNode p St op grp (.ok r) w en w') :
    Calls Tryz.prog 103 #[.pointer (some ⟨p, 0, none⟩)] w fun en w' => QNode p St op (pieceP grp) (.ok (cc :: tt)) w en w' := by
  have hlt := h.lt
  have HA := Lib.hid (fun w (h : RQ w p St k0 op (.ok (cc :: tt))) => qatom_any w p St k0 op cc tt grp h hG)
  have H := Lib.hid h
  clear h hG
  generalize cc :: tt = r0 at *
  go_enter Tryz.func103, Tryz.ntmps103
  go_upto_region 1 with fail
  generalize hW0 : w.alloc _ = W0
  have hB0 : Below w.heap.size w W0 := by subst hW0; exact (Below.refl _ _).alloc (Nat.le_refl _) _
  have R0 : BlkX W0 w.heap.size (xcell (.mk 0 0 0 0 0 0 0 [], none, 0)).toArray := by subst hW0; exact BlkX.new w _
  have hz0 : W0.heap.size = w.heap.size + 1 := by subst hW0; simp
  have Hz0 := Lib.hid hz0
  clear hW0 hz0
  go_wp2_with fail
  refine (HA.out W0 (H.out.later hB0)).mono ?_
  rintro en w1 ⟨⟨t1, A1, c1⟩, k1, s1, rfl, hx1, h1, hO1, ho1⟩
  have R1 := hO1.blk R0 (by omega)
  have hz1 := hO1.size
  have Hx1 := Lib.hid hx1; have Ho1 := Lib.hid ho1
  have hz0' : w.heap.size < W0.heap.size := by have := Hz0.out; omega
  clear hx1 ho1
  go_upto_region 2 with fail
  generalize hW : w1.alloc _ = W1
  have hb1 : Below w1.heap.size w1 W1 := by subst hW; exact (Below.refl _ _).alloc (Nat.le_refl _) _
  have N1 : BlkX W1 w1.heap.size (xcell (t1, A1, c1)).toArray := by subst hW; exact BlkX.new w1 _
  have hz2 : w1.heap.size < W1.heap.size := by subst hW; simp
  have hI : PieceIq p St op grp r0 w w1.heap.size W1 (s1.rest.length + 1) := by
    refine ⟨(t1, A1, c1), k1, s1, rfl, R1.keep (hb1.block _ R1.lt), N1, Hx1.out.mono fun b (hb : W0.heap.size ≤ b ∧ b < w1.heap.size) => ⟨⟨by omega, by omega, by omega⟩, fun o => hb1.cell (p := ⟨b, o, none⟩) hb.2⟩, h1.later hb1, ((Off.of_below hB0).trans hO1).trans (Off.of_below hb1), ?_⟩
    have ho := Ho1.out
    cases ha : atomP grp r0 with
    | error e =>
      simp only [Out, ha] at ho
      exact .inl ⟨e, ho, piece_first ha⟩
    | ok y =>
      obtain ⟨n, r1⟩ := y
      simp only [Out, ha] at ho
      obtain ⟨rfl, rfl⟩ := ho
      exact .inr ⟨r1, r1.length + 1, rfl, by omega, by simp only [pieceP, ha]⟩
  have HI := Lib.hid hI
  generalize hbn : w1.heap.size = bn at *
  have hbw : w.heap.size < bn := by omega
  clear hW hI N1 R1 h1 hO1 hb1 Hx1 Ho1 Hz0 hz0' hz1 hbn hB0 R0 hz2
  go_loopg [] (s1.rest.length + 1) (fun n wr => PieceIq p St op grp r0 w bn wr n)
  case atStart => exact HI.out
  case round =>
    clear HI
    obtain ⟨⟨t, A, c⟩, kr, s', hn, hR, hN, hX, hS, hO, hcase⟩ := hrel
    have Hn := Lib.hid hn; have HX := Lib.hid hX; have HC := Lib.hid hcase; have HN := Lib.hid hN; have HR := Lib.hid hR; have HS := Lib.hid hS; have HO := Lib.hid hO
    have ltn0 := hN.lt
    have c3 := hS.rdr.c3
    have hne := hS.ne
    clear hn hX hcase hN hR hS hO
    rcases s' with e | r'
    · simp only [Rs.no] at c3
      have hne0 := hne e rfl
      have hb0 : (e == 0) = false := by rw [beq_eq_false_iff_ne]; exact hne0
      have Hout := Lib.hid (show Out (pieceP grp) (.ok r0) (fun x => t = x) (.error e) by
        rcases HC.out with ⟨e', he, hp⟩ | ⟨r', k, he, _⟩
        · cases he; exact Out.bad hp
        · cases he)
      clear hne hne0
      obtain ⟨⟨n0, n1, n2, n3, n4, n5, n6, n7⟩, _⟩ := (HN.out).cells8
      have ln := (HN.out).lt
      obtain ⟨⟨r0, r1_, r2_, r3, r4, r5, r6, r7⟩, hz⟩ := (HR.out).cells8
      have z0 := hz 0; have z1 := hz 1; have z2 := hz 2; have z3 := hz 3; have z4 := hz 4; have z5 := hz 5; have z6 := hz 6; have z7 := hz 7
      have lr := (HR.out).lt
      clear hz
      go_wp2_with fail
      change bodyPost _ _ _ _ _ (writeX wr w.heap.size (t, A, c))
      have hfin := writeX_blk (HR.out) (t, A, c)
      obtain ⟨⟨y0, y1, y2, y3, y4, y5, y6, y7⟩, _⟩ := hfin.cells8
      have hRS := (HS.out).boxX (b := w.heap.size) (by omega) (t, A, c)
      have hOff := Off.boxW (HO.out) (Nat.le_refl _) (t, A, c)
      have hlw : wr.heap.size ≤ wr.heap.size := by first | exact Nat.le_refl _ | exact Nat.le_of_lt HP.out.X.lt
      have hNod : NodeAt (writeX wr w.heap.size (t, A, c)) (fun b => w.heap.size ≤ b ∧ b < (writeX wr w.heap.size (t, A, c)).heap.size) t A c := (HX.out).mono fun k (hk : w.heap.size < k ∧ k < wr.heap.size ∧ k ≠ bn) => ⟨⟨by omega, by rw [writeX_size]; omega⟩, fun o => World.cell?_of_block (w := wr) (a := ⟨k, o, none⟩) (writeX_other _ _ _ _ (show k ≠ w.heap.size by omega))⟩
      generalize writeX wr w.heap.size (t, A, c) = W9 at *
      exact bodyPost_ret (v := nodeV t A c) (by simp [results, Tryz.results103, y0, y1, y2, y3, y4, y5, y6, y7, go_sem]) rfl ⟨(t, A, c), kr, _, rfl, hNod, hRS, hOff, Hout.out⟩
    · simp only [Rs.no] at c3
      clear hne
      have hcs : ∃ k, r'.length < k + 1 ∧ pieceP grp r0 = sufP (k + 1) t r' := by
        rcases HC.out with ⟨e', he, hs⟩ | ⟨r2, k, he, hk, hpp⟩
        · cases he
        · cases he
          obtain ⟨k', rfl⟩ : ∃ k', k = k' + 1 := ⟨k - 1, by omega⟩
          exact ⟨k', hk, hpp⟩
      obtain ⟨k, hk, hpp⟩ := hcs
      have Hpp := Lib.hid hpp; clear hpp HC
      go_upto_region 5 with fail
      generalize hW : wr.alloc _ = W2
      have hb2 : Below wr.heap.size wr W2 := by subst hW; exact (Below.refl _ _).alloc (Nat.le_refl _) _
      have hX2 : BlkX W2 wr.heap.size (xcell (.mk 6 0 0 0 0 0 0 [], none, 0)).toArray := by subst hW; exact BlkX.new wr _
      have hP : PieceQ p St op w wr.heap.size bn t A c 0 0 kr (.ok r') W2 := ⟨HR.out.keep (hb2.block _ HR.out.lt), HN.out.keep (hb2.block _ HN.out.lt), hX2, HX.out.mono fun b (hb : w.heap.size < b ∧ b < wr.heap.size ∧ b ≠ bn) => ⟨hb, fun o => hb2.cell (p := ⟨b, o, none⟩) hb.2.1⟩, HS.out.later hb2, HO.out.trans (Off.of_below hb2)⟩
      have ltn := ltn0
      clear hW hb2 hX2 HR HN HX HS HO c3 ltn0
      generalize wr.heap.size = bx at *
      rcases ht : takeP [42] r' with _ | r2
      case' some =>
        have hsu : sufP (k + 1) t r' = sufP k (repT (0) (-1) t) r2 := by rw [sufP]; simp only [ht]
        have hl := takeP_len ht
        simp only [List.length_cons, List.length_nil] at hl
        have Hsu := Lib.hid hsu; have Ht := Lib.hid ht; clear hsu ht
        go_wp2_with fail
        refine (qtake_hit [42] (by simp) Ht.out hP.S).mono ?_
        rintro en W3 ⟨rfl, ⟨kt, h2⟩, hO2⟩
        have hP := hP.off hlt hbw ltn hO2 h2
        clear h2 hO2
        obtain ⟨⟨x0, x1, x2, x3, x4, x5, x6, x7⟩, hz⟩ := hP.X.cells8
        have zx5 := hz 5; have zx6 := hz 6
        have lx := hP.X.lt
        clear hz x0 x1 x2 x3 x4 x7
        have HP := Lib.hid (hP.set6 hlt hbw ltn (-1))
        clear hP
        go_upto_region 16 with fail
        generalize W3.setCell ⟨bx, 6, none⟩ _ = WS at *
        clear x5 x6 zx5 zx6 lx
        obtain ⟨⟨n0, n1, n2, n3, n4, n5, n6, n7⟩, _⟩ := HP.out.N.cells8
        have ln := HP.out.N.lt
        obtain ⟨⟨x0, x1, x2, x3, x4, x5, x6, x7⟩, hz⟩ := HP.out.X.cells8
        have zx7 := hz 7
        have lx := HP.out.X.lt
        obtain ⟨v0, hv0⟩ : ∃ v0 : Value, v0 = .slice none 0 0 := ⟨_, rfl⟩
        have hv7 : WS.cell? ⟨bx, 7, none⟩ = some v0 := by rw [hv0]; exact x7
        have Hv0 := Lib.hid hv0
        clear hz x7 hv0 x0 x1 x2 x3 x4 x5 x6
        have hnews : ∀ ad, some (⟨WS.heap.size, 0, none⟩ : Addr) = some ad → ∀ j u, (xcell (t, A, c))[j]? = some u → (WS.alloc (.cells (xcell (t, A, c)).toArray 48)).cell? (ad.add j) = some u := fun ad e j u hu => by
          simp only [Option.some.injEq] at e
          subst e
          rw [addr_addX, World.cell?_alloc_new, Nat.zero_add]
          simpa using hu
        have Hnews := Lib.hid hnews; clear hnews
        go_upto_region 17 with (at_builtin; refine wpList_append_fromX (bx + 1) rfl _ _ 46 48 _ 8 80 rfl Tryz.underlying46 Tryz.infoNodeX rfl (by omega) (by omega) v0 0 1 [] (xcell (t, A, c)) (some ⟨WS.heap.size, 0, none⟩) 1 rfl rfl (by simp) rfl Hnews.out (xcell_one _) ⟨rfl, .inl ⟨Hv0.out, rfl⟩⟩ (by simp; omega) (by omega) (fun A5 c5 w5 ho5 hg5 hat5 => ?_); have HZ := Lib.hid (HP.out.push hlt hbw ltn (A5 := A5) (c5 := c5) (w5 := w5) ((Below.refl _ _).alloc (Nat.le_refl _) _) (by simpa using ho5) (by rw [Hv0.out] at hg5; exact hg5)); clear ho5 hg5 hat5; obtain ⟨⟨x0, x1, x2, x3, x4, x5, x6, x7⟩, hz⟩ := HZ.out.X.cells8; have zx7 := hz 7; have lx5 := HZ.out.X.lt; clear hz; rw [Nat.zero_add])
        have hD := HZ.out.done hlt hbw ltn
        have lx6 := hD.1.lt
        obtain ⟨⟨g0, g1, g2, g3, g4, g5, g6, g7⟩, _⟩ := hD.1.cells8
        obtain ⟨⟨m0, m1, m2, m3, m4, m5, m6, m7⟩, hz⟩ := hD.2.1.cells8
        have zn0 := hz 0; have zn1 := hz 1; have zn2 := hz 2; have zn3 := hz 3; have zn4 := hz 4; have zn5 := hz 5; have zn6 := hz 6; have zn7 := hz 7
        have ln6 := hD.2.1.lt
        have HD := Lib.hid hD.2.2
        clear hD hz HZ x0 x1 x2 x3 x4 x5 x6 x7 zx7 lx5
        generalize w5.setCell _ _ = W6 at *
        go_wp2_with fail
        change Handed _ _ _ (writeX W6 bn (repT (0) (-1) t, A5, c5))
        obtain ⟨d1, d2, d3, d4, d5⟩ := HD.out
        clear HD m0 m1 m2 m3 m4 m5 m6 m7 zn0 zn1 zn2 zn3 zn4 zn5 zn6 zn7 g0 g1 g2 g3 g4 g5 g6 g7
        generalize writeX W6 bn (repT (0) (-1) t, A5, c5) = W7 at *
        go_roundg (r2.length + 1)
        case measure => have := Hn.out; simp only [Rs.rest] at *; omega
        case rel => exact ⟨(repT (0) (-1) t, A5, c5), kt, .ok r2, rfl, d1, d2, d3, d4, d5, .inr ⟨r2, k, rfl, by omega, by rw [Hpp.out, Hsu.out]⟩⟩
      have Ht42 := Lib.hid ht; clear ht
      rcases ht : takeP [43] r' with _ | r2
      case' some =>
        have hsu : sufP (k + 1) t r' = sufP k (repT (1) (-1) t) r2 := by rw [sufP]; simp only [Ht42.out, ht]
        have hl := takeP_len ht
        simp only [List.length_cons, List.length_nil] at hl
        have Hsu := Lib.hid hsu; have Ht := Lib.hid ht; clear hsu ht
        go_wp2_with fail
        refine (qtake_miss [42] (by simp) Ht42.out hP.S).mono ?_
        rintro en W3 ⟨rfl, ⟨kt, h2⟩, hO2⟩
        have hP := hP.off hlt hbw ltn hO2 h2
        clear h2 hO2
        go_wp2_with fail
        refine (qtake_hit [43] (by simp) Ht.out hP.S).mono ?_
        rintro en W4 ⟨rfl, ⟨kt, h2⟩, hO2⟩
        have hP := hP.off hlt hbw ltn hO2 h2
        clear h2 hO2
        obtain ⟨⟨x0, x1, x2, x3, x4, x5, x6, x7⟩, hz⟩ := hP.X.cells8
        have zx5 := hz 5; have zx6 := hz 6
        have lx := hP.X.lt
        clear hz x0 x1 x2 x3 x4 x7
        have HP := Lib.hid ((hP.set5 hlt hbw ltn 1).set6 hlt hbw ltn (-1))
        clear hP
        go_upto_region 16 with fail
        generalize (W4.setCell ⟨bx, 5, none⟩ _).setCell ⟨bx, 6, none⟩ _ = WS at *
        clear x5 x6 zx5 zx6 lx
        obtain ⟨⟨n0, n1, n2, n3, n4, n5, n6, n7⟩, _⟩ := HP.out.N.cells8
        have ln := HP.out.N.lt
        obtain ⟨⟨x0, x1, x2, x3, x4, x5, x6, x7⟩, hz⟩ := HP.out.X.cells8
        have zx7 := hz 7
        have lx := HP.out.X.lt
        obtain ⟨v0, hv0⟩ : ∃ v0 : Value, v0 = .slice none 0 0 := ⟨_, rfl⟩
        have hv7 : WS.cell? ⟨bx, 7, none⟩ = some v0 := by rw [hv0]; exact x7
        have Hv0 := Lib.hid hv0
        clear hz x7 hv0 x0 x1 x2 x3 x4 x5 x6
        have hnews : ∀ ad, some (⟨WS.heap.size, 0, none⟩ : Addr) = some ad → ∀ j u, (xcell (t, A, c))[j]? = some u → (WS.alloc (.cells (xcell (t, A, c)).toArray 48)).cell? (ad.add j) = some u := fun ad e j u hu => by
          simp only [Option.some.injEq] at e
          subst e
          rw [addr_addX, World.cell?_alloc_new, Nat.zero_add]
          simpa using hu
        have Hnews := Lib.hid hnews; clear hnews
        go_upto_region 17 with (at_builtin; refine wpList_append_fromX (bx + 1) rfl _ _ 46 48 _ 8 80 rfl Tryz.underlying46 Tryz.infoNodeX rfl (by omega) (by omega) v0 0 1 [] (xcell (t, A, c)) (some ⟨WS.heap.size, 0, none⟩) 1 rfl rfl (by simp) rfl Hnews.out (xcell_one _) ⟨rfl, .inl ⟨Hv0.out, rfl⟩⟩ (by simp; omega) (by omega) (fun A5 c5 w5 ho5 hg5 hat5 => ?_); have HZ := Lib.hid (HP.out.push hlt hbw ltn (A5 := A5) (c5 := c5) (w5 := w5) ((Below.refl _ _).alloc (Nat.le_refl _) _) (by simpa using ho5) (by rw [Hv0.out] at hg5; exact hg5)); clear ho5 hg5 hat5; obtain ⟨⟨x0, x1, x2, x3, x4, x5, x6, x7⟩, hz⟩ := HZ.out.X.cells8; have zx7 := hz 7; have lx5 := HZ.out.X.lt; clear hz; rw [Nat.zero_add])
        have hD := HZ.out.done hlt hbw ltn
        have lx6 := hD.1.lt
        obtain ⟨⟨g0, g1, g2, g3, g4, g5, g6, g7⟩, _⟩ := hD.1.cells8
        obtain ⟨⟨m0, m1, m2, m3, m4, m5, m6, m7⟩, hz⟩ := hD.2.1.cells8
        have zn0 := hz 0; have zn1 := hz 1; have zn2 := hz 2; have zn3 := hz 3; have zn4 := hz 4; have zn5 := hz 5; have zn6 := hz 6; have zn7 := hz 7
        have ln6 := hD.2.1.lt
        have HD := Lib.hid hD.2.2
        clear hD hz HZ x0 x1 x2 x3 x4 x5 x6 x7 zx7 lx5
        generalize w5.setCell _ _ = W6 at *
        go_wp2_with fail
        change Handed _ _ _ (writeX W6 bn (repT (1) (-1) t, A5, c5))
        obtain ⟨d1, d2, d3, d4, d5⟩ := HD.out
        clear HD m0 m1 m2 m3 m4 m5 m6 m7 zn0 zn1 zn2 zn3 zn4 zn5 zn6 zn7 g0 g1 g2 g3 g4 g5 g6 g7
        generalize writeX W6 bn (repT (1) (-1) t, A5, c5) = W7 at *
        go_roundg (r2.length + 1)
        case measure => have := Hn.out; simp only [Rs.rest] at *; omega
        case rel => exact ⟨(repT (1) (-1) t, A5, c5), kt, .ok r2, rfl, d1, d2, d3, d4, d5, .inr ⟨r2, k, rfl, by omega, by rw [Hpp.out, Hsu.out]⟩⟩
      have Ht43 := Lib.hid ht; clear ht
      rcases ht : takeP [63] r' with _ | r2
      case' some =>
        have hsu : sufP (k + 1) t r' = sufP k (repT (0) (1) t) r2 := by rw [sufP]; simp only [Ht42.out, Ht43.out, ht]
        have hl := takeP_len ht
        simp only [List.length_cons, List.length_nil] at hl
        have Hsu := Lib.hid hsu; have Ht := Lib.hid ht; clear hsu ht
        go_wp2_with fail
        refine (qtake_miss [42] (by simp) Ht42.out hP.S).mono ?_
        rintro en W3 ⟨rfl, ⟨kt, h2⟩, hO2⟩
        have hP := hP.off hlt hbw ltn hO2 h2
        clear h2 hO2
        go_wp2_with fail
        refine (qtake_miss [43] (by simp) Ht43.out hP.S).mono ?_
        rintro en W4 ⟨rfl, ⟨kt, h2⟩, hO2⟩
        have hP := hP.off hlt hbw ltn hO2 h2
        clear h2 hO2
        go_wp2_with fail
        refine (qtake_hit [63] (by simp) Ht.out hP.S).mono ?_
        rintro en W5 ⟨rfl, ⟨kt, h2⟩, hO2⟩
        have hP := hP.off hlt hbw ltn hO2 h2
        clear h2 hO2
        obtain ⟨⟨x0, x1, x2, x3, x4, x5, x6, x7⟩, hz⟩ := hP.X.cells8
        have zx5 := hz 5; have zx6 := hz 6
        have lx := hP.X.lt
        clear hz x0 x1 x2 x3 x4 x7
        have HP := Lib.hid (hP.set6 hlt hbw ltn 1)
        clear hP
        go_upto_region 16 with fail
        generalize W5.setCell ⟨bx, 6, none⟩ _ = WS at *
        clear x5 x6 zx5 zx6 lx
        obtain ⟨⟨n0, n1, n2, n3, n4, n5, n6, n7⟩, _⟩ := HP.out.N.cells8
        have ln := HP.out.N.lt
        obtain ⟨⟨x0, x1, x2, x3, x4, x5, x6, x7⟩, hz⟩ := HP.out.X.cells8
        have zx7 := hz 7
        have lx := HP.out.X.lt
        obtain ⟨v0, hv0⟩ : ∃ v0 : Value, v0 = .slice none 0 0 := ⟨_, rfl⟩
        have hv7 : WS.cell? ⟨bx, 7, none⟩ = some v0 := by rw [hv0]; exact x7
        have Hv0 := Lib.hid hv0
        clear hz x7 hv0 x0 x1 x2 x3 x4 x5 x6
        have hnews : ∀ ad, some (⟨WS.heap.size, 0, none⟩ : Addr) = some ad → ∀ j u, (xcell (t, A, c))[j]? = some u → (WS.alloc (.cells (xcell (t, A, c)).toArray 48)).cell? (ad.add j) = some u := fun ad e j u hu => by
          simp only [Option.some.injEq] at e
          subst e
          rw [addr_addX, World.cell?_alloc_new, Nat.zero_add]
          simpa using hu
        have Hnews := Lib.hid hnews; clear hnews
        go_upto_region 17 with (at_builtin; refine wpList_append_fromX (bx + 1) rfl _ _ 46 48 _ 8 80 rfl Tryz.underlying46 Tryz.infoNodeX rfl (by omega) (by omega) v0 0 1 [] (xcell (t, A, c)) (some ⟨WS.heap.size, 0, none⟩) 1 rfl rfl (by simp) rfl Hnews.out (xcell_one _) ⟨rfl, .inl ⟨Hv0.out, rfl⟩⟩ (by simp; omega) (by omega) (fun A5 c5 w5 ho5 hg5 hat5 => ?_); have HZ := Lib.hid (HP.out.push hlt hbw ltn (A5 := A5) (c5 := c5) (w5 := w5) ((Below.refl _ _).alloc (Nat.le_refl _) _) (by simpa using ho5) (by rw [Hv0.out] at hg5; exact hg5)); clear ho5 hg5 hat5; obtain ⟨⟨x0, x1, x2, x3, x4, x5, x6, x7⟩, hz⟩ := HZ.out.X.cells8; have zx7 := hz 7; have lx5 := HZ.out.X.lt; clear hz; rw [Nat.zero_add])
        have hD := HZ.out.done hlt hbw ltn
        have lx6 := hD.1.lt
        obtain ⟨⟨g0, g1, g2, g3, g4, g5, g6, g7⟩, _⟩ := hD.1.cells8
        obtain ⟨⟨m0, m1, m2, m3, m4, m5, m6, m7⟩, hz⟩ := hD.2.1.cells8
        have zn0 := hz 0; have zn1 := hz 1; have zn2 := hz 2; have zn3 := hz 3; have zn4 := hz 4; have zn5 := hz 5; have zn6 := hz 6; have zn7 := hz 7
        have ln6 := hD.2.1.lt
        have HD := Lib.hid hD.2.2
        clear hD hz HZ x0 x1 x2 x3 x4 x5 x6 x7 zx7 lx5
        generalize w5.setCell _ _ = W6 at *
        go_wp2_with fail
        change Handed _ _ _ (writeX W6 bn (repT (0) (1) t, A5, c5))
        obtain ⟨d1, d2, d3, d4, d5⟩ := HD.out
        clear HD m0 m1 m2 m3 m4 m5 m6 m7 zn0 zn1 zn2 zn3 zn4 zn5 zn6 zn7 g0 g1 g2 g3 g4 g5 g6 g7
        generalize writeX W6 bn (repT (0) (1) t, A5, c5) = W7 at *
        go_roundg (r2.length + 1)
        case measure => have := Hn.out; simp only [Rs.rest] at *; omega
        case rel => exact ⟨(repT (0) (1) t, A5, c5), kt, .ok r2, rfl, d1, d2, d3, d4, d5, .inr ⟨r2, k, rfl, by omega, by rw [Hpp.out, Hsu.out]⟩⟩
      have Ht63 := Lib.hid ht; clear ht
      rcases ht : takeP [123] r' with _ | r1
      case' none =>
        have hsu : sufP (k + 1) t r' = .ok (t, r') := by rw [sufP]; simp only [Ht42.out, Ht43.out, Ht63.out, ht]
        have Hout := Lib.hid (show Out (pieceP grp) (.ok r0) (fun x => t = x) (.ok r') from Out.good (by rw [Hpp.out, hsu]) rfl)
        have Ht := Lib.hid ht; clear hsu ht
        go_wp2_with fail
        refine (qtake_miss [42] (by simp) Ht42.out hP.S).mono ?_
        rintro en W3 ⟨rfl, ⟨kt, h2⟩, hO2⟩
        have hP := hP.off hlt hbw ltn hO2 h2
        clear h2 hO2
        go_wp2_with fail
        refine (qtake_miss [43] (by simp) Ht43.out hP.S).mono ?_
        rintro en W4 ⟨rfl, ⟨kt, h2⟩, hO2⟩
        have hP := hP.off hlt hbw ltn hO2 h2
        clear h2 hO2
        go_wp2_with fail
        refine (qtake_miss [63] (by simp) Ht63.out hP.S).mono ?_
        rintro en W5 ⟨rfl, ⟨kt, h2⟩, hO2⟩
        have hP := hP.off hlt hbw ltn hO2 h2
        clear h2 hO2
        go_wp2_with fail
        refine (qtake_miss [123] (by simp) Ht.out hP.S).mono ?_
        rintro en W6 ⟨rfl, ⟨kt, h2⟩, hO2⟩
        have hP := hP.off hlt hbw ltn hO2 h2
        clear h2 hO2
        have HP := Lib.hid hP
        clear hP
        obtain ⟨⟨n0, n1, n2, n3, n4, n5, n6, n7⟩, _⟩ := (HP.out.N).cells8
        have ln := (HP.out.N).lt
        obtain ⟨⟨r0, r1_, r2_, r3, r4, r5, r6, r7⟩, hz⟩ := (HP.out.R).cells8
        have z0 := hz 0; have z1 := hz 1; have z2 := hz 2; have z3 := hz 3; have z4 := hz 4; have z5 := hz 5; have z6 := hz 6; have z7 := hz 7
        have lr := (HP.out.R).lt
        clear hz
        go_wp2_with fail
        change bodyPost _ _ _ _ _ (writeX W6 w.heap.size (t, A, c))
        have hfin := writeX_blk (HP.out.R) (t, A, c)
        obtain ⟨⟨y0, y1, y2, y3, y4, y5, y6, y7⟩, _⟩ := hfin.cells8
        have hRS := (HP.out.S).boxX (b := w.heap.size) (by omega) (t, A, c)
        have hOff := Off.boxW (HP.out.O) (Nat.le_refl _) (t, A, c)
        have hlw : bx ≤ W6.heap.size := by first | exact Nat.le_refl _ | exact Nat.le_of_lt HP.out.X.lt
        have hNod : NodeAt (writeX W6 w.heap.size (t, A, c)) (fun b => w.heap.size ≤ b ∧ b < (writeX W6 w.heap.size (t, A, c)).heap.size) t A c := (HP.out.x).mono fun k (hk : w.heap.size < k ∧ k < bx ∧ k ≠ bn) => ⟨⟨by omega, by rw [writeX_size]; omega⟩, fun o => World.cell?_of_block (w := W6) (a := ⟨k, o, none⟩) (writeX_other _ _ _ _ (show k ≠ w.heap.size by omega))⟩
        generalize writeX W6 w.heap.size (t, A, c) = W9 at *
        exact bodyPost_ret (v := nodeV t A c) (by simp [results, Tryz.results103, y0, y1, y2, y3, y4, y5, y6, y7, go_sem]) rfl ⟨(t, A, c), kt, _, rfl, hNod, hRS, hOff, Hout.out⟩
      have Ht := Lib.hid ht
      have hl := takeP_len ht
      simp only [List.length_cons, List.length_nil] at hl
      clear ht
      go_wp2_with fail
      refine (qtake_miss [42] (by simp) Ht42.out hP.S).mono ?_
      rintro en W3 ⟨rfl, ⟨kt, h2⟩, hO2⟩
      have hP := hP.off hlt hbw ltn hO2 h2
      clear h2 hO2
      go_wp2_with fail
      refine (qtake_miss [43] (by simp) Ht43.out hP.S).mono ?_
      rintro en W4 ⟨rfl, ⟨kt, h2⟩, hO2⟩
      have hP := hP.off hlt hbw ltn hO2 h2
      clear h2 hO2
      go_wp2_with fail
      refine (qtake_miss [63] (by simp) Ht63.out hP.S).mono ?_
      rintro en W5 ⟨rfl, ⟨kt, h2⟩, hO2⟩
      have hP := hP.off hlt hbw ltn hO2 h2
      clear h2 hO2
      go_wp2_with fail
      refine (qtake_hit [123] (by simp) Ht.out hP.S).mono ?_
      rintro en W6 ⟨rfl, ⟨kt, h2⟩, hO2⟩
      have hP := hP.off hlt hbw ltn hO2 h2
      clear h2 hO2
      go_wp2_with fail
      refine (qinterval_any W6 p St kt op r1 hP.S).mono ?_
      rintro en W7 ⟨m, x, k7, s7, rfl, h7, hO7, ho7⟩
      have hP := hP.off hlt hbw ltn hO7 h7
      clear h7 hO7
      have hcase : s7.rest.length < r'.length ∧ ((∃ e, s7 = .error e ∧ pieceP grp r0 = .error e) ∨ ∃ r' k, s7 = .ok r' ∧ r'.length < k ∧ pieceP grp r0 = sufP k (repT m x t) r') := by
        rcases ho7 with ⟨hi, rfl⟩ | ⟨r2, hi, rfl⟩
        · exact ⟨by simp only [Rs.rest, List.length_nil]; omega, .inl ⟨105, rfl, by rw [Hpp.out, sufP]; simp only [Ht42.out, Ht43.out, Ht63.out, Ht.out, hi]⟩⟩
        · have := interval_len hi
          exact ⟨by simp only [Rs.rest]; omega, .inr ⟨r2, k, rfl, by omega, by rw [Hpp.out, sufP]; simp only [Ht42.out, Ht43.out, Ht63.out, Ht.out, hi]⟩⟩
      have HCA := Lib.hid hcase
      clear hcase ho7
      obtain ⟨⟨x0, x1, x2, x3, x4, x5, x6, x7⟩, hz⟩ := hP.X.cells8
      have zx5 := hz 5; have zx6 := hz 6
      have lx := hP.X.lt
      clear hz x0 x1 x2 x3 x4 x7
      have HP := Lib.hid ((hP.set5 hlt hbw ltn m).set6 hlt hbw ltn x)
      clear hP
      go_upto_region 16 with fail
      generalize (W7.setCell ⟨bx, 5, none⟩ _).setCell ⟨bx, 6, none⟩ _ = WS at *
      clear x5 x6 zx5 zx6 lx
      obtain ⟨⟨n0, n1, n2, n3, n4, n5, n6, n7⟩, _⟩ := HP.out.N.cells8
      have ln := HP.out.N.lt
      obtain ⟨⟨x0, x1, x2, x3, x4, x5, x6, x7⟩, hz⟩ := HP.out.X.cells8
      have zx7 := hz 7
      have lx := HP.out.X.lt
      obtain ⟨v0, hv0⟩ : ∃ v0 : Value, v0 = .slice none 0 0 := ⟨_, rfl⟩
      have hv7 : WS.cell? ⟨bx, 7, none⟩ = some v0 := by rw [hv0]; exact x7
      have Hv0 := Lib.hid hv0
      clear hz x7 hv0 x0 x1 x2 x3 x4 x5 x6
      have hnews : ∀ ad, some (⟨WS.heap.size, 0, none⟩ : Addr) = some ad → ∀ j u, (xcell (t, A, c))[j]? = some u → (WS.alloc (.cells (xcell (t, A, c)).toArray 48)).cell? (ad.add j) = some u := fun ad e j u hu => by
        simp only [Option.some.injEq] at e
        subst e
        rw [addr_addX, World.cell?_alloc_new, Nat.zero_add]
        simpa using hu
      have Hnews := Lib.hid hnews; clear hnews
      go_upto_region 17 with (at_builtin; refine wpList_append_fromX (bx + 1) rfl _ _ 46 48 _ 8 80 rfl Tryz.underlying46 Tryz.infoNodeX rfl (by omega) (by omega) v0 0 1 [] (xcell (t, A, c)) (some ⟨WS.heap.size, 0, none⟩) 1 rfl rfl (by simp) rfl Hnews.out (xcell_one _) ⟨rfl, .inl ⟨Hv0.out, rfl⟩⟩ (by simp; omega) (by omega) (fun A5 c5 w5 ho5 hg5 hat5 => ?_); have HZ := Lib.hid (HP.out.push hlt hbw ltn (A5 := A5) (c5 := c5) (w5 := w5) ((Below.refl _ _).alloc (Nat.le_refl _) _) (by simpa using ho5) (by rw [Hv0.out] at hg5; exact hg5)); clear ho5 hg5 hat5; obtain ⟨⟨x0, x1, x2, x3, x4, x5, x6, x7⟩, hz⟩ := HZ.out.X.cells8; have zx7 := hz 7; have lx5 := HZ.out.X.lt; clear hz; rw [Nat.zero_add])
      have hD := HZ.out.done hlt hbw ltn
      have lx6 := hD.1.lt
      obtain ⟨⟨g0, g1, g2, g3, g4, g5, g6, g7⟩, _⟩ := hD.1.cells8
      obtain ⟨⟨m0, m1, m2, m3, m4, m5, m6, m7⟩, hz⟩ := hD.2.1.cells8
      have zn0 := hz 0; have zn1 := hz 1; have zn2 := hz 2; have zn3 := hz 3; have zn4 := hz 4; have zn5 := hz 5; have zn6 := hz 6; have zn7 := hz 7
      have ln6 := hD.2.1.lt
      have HD := Lib.hid hD.2.2
      clear hD hz HZ x0 x1 x2 x3 x4 x5 x6 x7 zx7 lx5
      generalize w5.setCell _ _ = W6 at *
      go_wp2_with fail
      change Handed _ _ _ (writeX W6 bn (repT (m) (x) t, A5, c5))
      obtain ⟨d1, d2, d3, d4, d5⟩ := HD.out
      clear HD m0 m1 m2 m3 m4 m5 m6 m7 zn0 zn1 zn2 zn3 zn4 zn5 zn6 zn7 g0 g1 g2 g3 g4 g5 g6 g7
      generalize writeX W6 bn (repT (m) (x) t, A5, c5) = W7 at *
      go_roundg (s7.rest.length + 1)
      case measure => have := Hn.out; have := HCA.out.1; simp only [Rs.rest] at *; omega
      case rel => exact ⟨(repT (m) (x) t, A5, c5), k7, s7, rfl, d1, d2, d3, d4, d5, HCA.out.2⟩
end Go.Proofs.YthlakbjnmbddaaaGreatDoor

