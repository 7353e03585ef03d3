/- LentNfa, KeptNfa: walked. -/
import Derived.Test.YtdpmbanfaigmcaaVSame
import Derived.Laws.OwnMore
set_option linter.unusedVariables false
set_option linter.unusedSimpArgs false
namespace Go.Proofs.Ytdpmbanfaigmcaa
open Go.RowKit

/-- append of a slice that may be nil or empty. -/
theorem wpList_append_from {P : Program} {ops : Array Oper} {rest : List Oper} {o : Oper} {a : Act} {Q : Exit → Act → World → Prop} {W : World} (base : Nat)
    (hgd : o.guard = none) (s x : Operand) (t e : TypeId) (z : Value) (size bytes : Nat)
    (ho : o.op = .call { callee := .builtin .append, args := #[s, x], argTypes := #[t, t] })
    (ht : P.underlying t = some (.slice e)) (hinfo : (P.info? e).map (fun i => (i.zero, i.size, i.bytes)) = some (some z, size, bytes)) (hz : z.cells.size = size) (hs0 : 0 < size) (hb0 : 0 < bytes)
    (v : Value) (n m : Nat) (xs ys : List Value) (A : Option Addr) (c : Nat) (hs : a.eval s = v) (hx : a.eval x = .slice A m c) (hA : A = none → m = 0 ∧ c = 0) (hys : ys.length = m * size)
    (hnews : ∀ ad, A = some ad → ∀ j u, ys[j]? = some u → W.cell? (ad.add j) = some u) (h1 : ∀ u ∈ ys, u.oneCell' = true)
    (HO : W.ownsRow base e size v n xs) (hbase : base ≤ W.heap.size) (hl : (n + m) * bytes ≤ 140737488355328)
    (h : ∀ A' c' w1, w1.ownsRow base e size (.slice A' (n + m) c') (n + m) (xs ++ ys) → W.grownBy w1 v.ownBlock → ((Value.slice A' (n + m) c').ownBlock = v.ownBlock ∨ (Value.slice A' (n + m) c').ownBlock = some W.heap.size) →
      wpList P ops Q rest (a.put o.dst (.slice A' (n + m) c')) w1) :
    wpList P ops Q (o :: rest) a W := by
  refine wpList_plain hgd fun K hK => ?_
  obtain ⟨i0, hi, hzz⟩ := Option.map_eq_some_iff.1 hinfo
  simp only [Prod.mk.injEq] at hzz
  obtain ⟨hz0, hz1, hz2⟩ := hzz
  have hlen : n + m ≤ 140737488355328 := Nat.le_trans (Nat.le_mul_of_pos_right _ hb0) hl
  unfold Oper.wp execOp
  cases A with
  | none =>
    obtain ⟨rfl, rfl⟩ := hA rfl
    have hy : ys = [] := by simpa using hys
    subst hy
    have hr := run_append_owned_none (P := P) (w := W) base t o.type e i0 size ht hi v n xs HO
    simp only [ho, resolve, invoke, builtin, Sem.run_bind, Sem.run_pure, Result.andThen_ok, List.map_toArray, List.map_cons, List.map_nil, hs, hx, hr]
    have hv : ∃ A' c', v = .slice A' (n + 0) c' := by
      rcases HO.2 with ⟨rfl, rfl⟩ | ⟨g, cap, cur, rfl, _⟩
      · exact ⟨_, _, rfl⟩
      · exact ⟨_, _, rfl⟩
    obtain ⟨A', c', rfl⟩ := hv
    exact hK _ _ (h A' c' W (by simpa using HO) ⟨rfl, rfl, rfl, Nat.le_refl _, fun _ _ _ => rfl⟩ (.inl rfl))
  | some ad =>
    obtain ⟨v1, w1, hr, hown, hg, _, hat⟩ := run_append_own_at (P := P) W base t o.type e i0 z size bytes ht hi hz0 hz1 hz2 hz hs0 v n xs HO ad m c ys hys (hnews ad rfl) h1 (by simp only [maxLen]; omega) hl hbase
    simp only [ho, resolve, invoke, builtin, Sem.run_bind, Sem.run_pure, Result.andThen_ok, List.map_toArray, List.map_cons, List.map_nil, hs, hx, hr]
    have hv : ∃ A' c', v1 = .slice A' (n + m) c' := by
      rcases hown.2 with ⟨rfl, h0⟩ | ⟨g, cap, cur, rfl, _⟩
      · exact ⟨_, _, by rw [h0]⟩
      · exact ⟨_, _, rfl⟩
    obtain ⟨A', c', rfl⟩ := hv
    exact hK _ _ (h A' c' w1 hown hg hat)

theorem addr_add (b o j : Nat) : (⟨b, o, none⟩ : Addr).add j = ⟨b, o + j, none⟩ := by unfold Addr.add; split <;> simp_all
theorem stCells_one (l : List St) : ∀ u ∈ stCells l, u.oneCell' = true := by
  intro u hu
  obtain ⟨s, hs, hu⟩ := List.mem_flatMap.1 hu
  exact s.cells_one u hu
theorem stCells_get : ∀ (l : List St) (i j : Nat) (hi : i < l.length), j < 7 → (stCells l)[i * 7 + j]? = l[i].cells[j]?
  | s :: l, 0, j, hi, hj => by
    show (s.cells ++ stCells l)[0 * 7 + j]? = _
    rw [Nat.zero_mul, Nat.zero_add, List.getElem?_append_left (by simp [St.cells]; omega)]
    rfl
  | s :: l, i + 1, j, hi, hj => by
    show (s.cells ++ stCells l)[(i + 1) * 7 + j]? = _
    rw [List.getElem?_append_right (by simp [St.cells]; omega)]
    simp only [St.cells, List.length_cons, List.length_nil]
    rw [show (i + 1) * 7 + j - (0 + 1 + 1 + 1 + 1 + 1 + 1 + 1) = i * 7 + j by omega, stCells_get l i j (by simpa using hi) hj]
    rfl
/-- The cells behind a slice of states, one by one. -/
theorem St7.cells {w : World} {b o : Nat} {s : St} (h : St7 w b o s) (j : Nat) (hj : j < 7) : w.cell? ⟨b, o + j, none⟩ = s.cells[j]? := by
  have : j = 0 ∨ j = 1 ∨ j = 2 ∨ j = 3 ∨ j = 4 ∨ j = 5 ∨ j = 6 := by omega
  rcases this with rfl | rfl | rfl | rfl | rfl | rfl | rfl
  · exact h.f0
  · exact h.f1
  · exact h.f2
  · exact h.f3
  · exact h.f4
  · exact h.f5
  · exact h.f6
theorem StsAt.cells {w : World} {ok : Nat → Prop} {l : List St} {b o c : Nat} (h : StsAt w ok l (some ⟨b, o, none⟩) c) : ∀ j u, (stCells l)[j]? = some u → w.cell? ⟨b, o + j, none⟩ = some u := by
  intro j u hu
  have hj : j < l.length * 7 := by
    rw [← stCells_length]; exact (List.getElem?_eq_some_iff.1 hu).1
  obtain ⟨b', o', e, _, hc⟩ := h.at_ (by omega)
  simp only [Option.some.injEq, Addr.mk.injEq, and_true] at e
  obtain ⟨rfl, rfl⟩ := e
  have hi : j / 7 < l.length := by omega
  have := (hc (j / 7) hi).cells (j % 7) (Nat.mod_lt _ (by omega))
  rw [show o + j = o + j / 7 * 7 + j % 7 by omega, this, ← stCells_get l _ _ hi (Nat.mod_lt _ (by omega)), show j / 7 * 7 + j % 7 = j by omega, hu]
/-- An owned row of states reads. -/
theorem stsAt_own {w : World} {base : Nat} {l : List St} {A : Option Addr} {c : Nat} (h : w.ownsRow base 47 7 (.slice A l.length c) l.length (stCells l)) (hl : l.length ≤ 17592186044416) :
    StsAt w (fun b => base ≤ b ∧ b < w.heap.size) l A c := by
  have h0 := h
  rcases h.2 with ⟨e, h1⟩ | ⟨g, cap, cur, e, hb, hg, hn, _⟩
  · simp only [Value.slice.injEq] at e
    obtain ⟨rfl, _, rfl⟩ := e
    exact ⟨by omega, hl, fun _ => rfl, fun hh => by omega⟩
  · simp only [Value.slice.injEq] at e
    obtain ⟨rfl, _, rfl⟩ := e
    have hlt : g < w.heap.size := by
      rcases Nat.lt_or_ge g w.heap.size with h | h
      · exact h
      · rw [Array.getElem?_eq_none h] at hg; simp at hg
    refine ⟨hn, hl, fun e => by simp at e, fun _ => ⟨g, 0, rfl, ⟨hb, hlt⟩, fun i hi => .of fun j hj => ?_⟩⟩
    rw [← stCells_get l i j hi hj, Nat.zero_add]
    exact h0.cellAt _ (by omega)
theorem StsAt.take {w : World} {ok : Nat → Prop} {l m : List St} {A : Option Addr} {c : Nat} (h : StsAt w ok (l ++ m) A c) : StsAt w ok l A c :=
  ⟨by have := h.cap; simp at this; omega, by have := h.len; simp at this; omega, h.nil, fun hne => by
    obtain ⟨b, o, e, hb, hc⟩ := h.at_ (by simp; omega)
    exact ⟨b, o, e, hb, fun i hi => by have := hc i (by simp; omega); rwa [List.getElem_append_left hi] at this⟩⟩
end Go.Proofs.Ytdpmbanfaigmcaa
