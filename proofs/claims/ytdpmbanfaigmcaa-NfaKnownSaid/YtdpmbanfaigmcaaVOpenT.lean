/- Arguments opened: trees. -/
import Derived.Test.YtdpmbanfaigmcaaVOpenN
import Derived.Test.YtdpmbanfaigmcaaVLentT
set_option linter.unusedVariables false
set_option linter.unusedSimpArgs false
namespace Go.Proofs.Ytdpmbanfaigmcaa
open Go.RowKit Go.ChangeShapes Go.WideShapes Go.Deep

theorem Try.cellsNode : Try.prog.cellsOf 27 = 8 := by kernel_rfl
theorem Try.cellsNodes : Try.prog.cellsOf 25 = 1 := by kernel_rfl
theorem Try.bytesNode : Try.prog.bytesOf 27 = 80 := by kernel_rfl
theorem len8 {α : Type} {l : List α} (h : l.length = 8) : ∃ a b c d e f g k, l = [a, b, c, d, e, f, g, k] := by
  match l, h with
  | [a, b, c, d, e, f, g, k], _ => exact ⟨a, b, c, d, e, f, g, k, rfl⟩
theorem weights_all {H : Type} {P : Program} {e : TypeId} : ∀ {l : List (DataW H)} {d : DataW H}, d ∈ l → ∀ n ∈ d.weights P e, n ∈ DataW.weightsAll P e l
  | x :: l, d, h, n, hn => by
    rw [DataW.weightsAll, List.mem_append]
    cases h with
    | head => exact .inl hn
    | tail _ h => exact .inr (weights_all h n hn)

section
variable {H : Type} {enc : TypeId × Value → H} {P : Program} {tSt tSts tNfa tSet tI tU tN tNs : TypeId} {w : World} {base : Nat} {spare : Nat → Bool} {held : Bool}
/-- What the program says of the types of trees. -/
structure TypesT (P : Program) (tN tNs tSet tI : TypeId) : Prop where
  ns : P.underlying tNs = some (.slice tN)
  n : ∃ f0 f1 f2 f3 f4, P.underlying tN = some (.struct #[f0, f1, f2, f3, f4]) ∧ (f0.type = tI ∧ f0.offset = 0) ∧ (f1.type = tSet ∧ f1.offset = 1) ∧ (f2.type = tI ∧ f2.offset = 5) ∧ (f3.type = tI ∧ f3.offset = 6) ∧ (f4.type = tNs ∧ f4.offset = 7)
  cN : P.cellsOf tN = 8
  cNs : P.cellsOf tNs = 1
  bN : P.bytesOf tN = 80
theorem open_node (K : Types P tSt tSts tNfa tSet tI tU) (L : TypesT P tN tNs tSet tI) : ∀ (fuel : Nat) (cs : List Value) (x : DataW H × List MemPlace), DataW.trod enc P w base spare held fuel tN cs = some x → (∀ n ∈ x.1.weights P tN, n ≤ reachBytes) →
    ∃ (t : T) (A : Option Addr) (c : Nat), cs = ncell (t, A, c) ∧ NodeAt w (fun b => b < w.heap.size) t A c := by
  intro fuel
  induction fuel using Nat.strongRecOn with
  | ind fuel ih =>
  intro cs x h hz
  obtain ⟨q0, q1, q2, q3, q4, hst, ⟨t0, o0⟩, ⟨t1, o1⟩, ⟨t2, o2⟩, ⟨t3, o3⟩, t4, o4⟩ := L.n
  obtain ⟨xs, m, rfl, hx, hl, hxl, hi⟩ := DataW.trod_struct hst h
  rw [L.cN] at hl
  have hxl5 : xs.length = 5 := hxl
  obtain ⟨c0, c1, c2, c3, c4, c5, c6, c7, rfl⟩ := len8 hl
  clear h
  have h0 := hi 0 q0 rfl
  have h1 := hi 1 q1 rfl
  have h2 := hi 2 q2 rfl
  have h3 := hi 3 q3 rfl
  have h4 := hi 4 q4 rfl
  rw [t0, o0, K.cI] at h0
  rw [t1, o1, K.cSet] at h1
  rw [t2, o2, K.cI] at h2
  rw [t3, o3, K.cI] at h3
  rw [t4, o4, L.cNs] at h4
  rw [List.getElem?_eq_getElem (by omega)] at h0 h1 h2 h3 h4
  obtain ⟨k, hk, _⟩ := DataW.trod_int K.i h0
  obtain ⟨a, b, c, d, hs⟩ := open_set K h1
  obtain ⟨mn, hn, _⟩ := DataW.trod_int K.i h2
  obtain ⟨mx, ho, _⟩ := DataW.trod_int K.i h3
  simp at hk hs hn ho
  obtain ⟨rfl, rfl, rfl, rfl⟩ := hs
  subst hk hn ho
  have hz4 : ∀ n ∈ (xs[4]).1.weights P tNs, n ≤ reachBytes := fun n hn => hz n (by
    rw [hx]
    simp only [DataW.weights, hst]
    refine DataW.weights_mem_each (j := 4) (t := tNs) (d := (xs[4]).1) ?_ ?_ n hn
    · simp [t4]
    · rw [List.getElem?_map, List.getElem?_eq_getElem (by omega)]; rfl)
  rcases DataW.trod_slice L.ns h4 with ⟨hc, hx0⟩ | ⟨ad, len, cap, elems, rest, n, rfl, hc, hx4, hb, hlc, hcm, hel, hat, _, _⟩
  · simp at hc
    subst hc
    exact ⟨.mk k a b c d mn mx [], none, 0, rfl, .mk _ _ _ (fun _ => none) (fun _ => 0) (by simp [T.ps]) (by simp [T.ps]) (fun e => absurd rfl e) (fun i p hp => by simp [T.ps] at hp)⟩
  · simp at hc
    subst hc
    rw [hx4] at hz4
    simp only [DataW.weights, L.ns, L.bN, List.length_map] at hz4
    have hlen : len ≤ 17592186044416 := by
      have := hz4 ((elems.length + rest.length) * 80) (by simp)
      have h2 := reachBytes_lt
      omega
    rw [L.cN] at hat
    have hst : ∀ i, i < len → ∃ (y : T × Option Addr × Nat), (∀ j, j < 8 → w.cell? ((ad.add (i * 8)).add j) = (ncell y)[j]?) ∧ NodeAt w (fun b => b < w.heap.size) y.1 y.2.1 y.2.2 := by
      intro i hi
      have hbi := hat i hi
      rw [List.getElem?_eq_getElem (by omega)] at hbi
      obtain ⟨cs', hcs, ht⟩ := Option.bind_eq_some_iff.1 hbi
      obtain ⟨_, _, hatc⟩ := World.cells?_some hcs
      obtain ⟨t, A, c, rfl, hN⟩ := ih n (by omega) cs' _ ht (fun nn hnn => hz4 nn (by
        simp only [List.mem_cons, List.mem_append]
        right; left
        exact weights_all (List.mem_map.2 ⟨elems[i], List.getElem_mem _, rfl⟩) nn hnn))
      exact ⟨(t, A, c), hatc, hN⟩
    let g : Nat → T × Option Addr × Nat := fun i => if h : i < len then Classical.choose (hst i h) else mark
    have hg : ∀ i, i < len → (∀ j, j < 8 → w.cell? ((ad.add (i * 8)).add j) = (ncell (g i))[j]?) ∧ NodeAt w (fun b => b < w.heap.size) (g i).1 (g i).2.1 (g i).2.2 := fun i hi => by
      simp only [g, dif_pos hi]; exact Classical.choose_spec (hst i hi)
    have hps : ∀ i p, ((List.range len).map fun i => (g i).1)[i]? = some p → i < len ∧ p = (g i).1 := by
      intro i p hp
      have hl := (List.getElem?_eq_some_iff.1 hp).1
      simp at hl
      rw [List.getElem?_map, List.getElem?_range hl] at hp
      exact ⟨hl, by simpa using hp.symm⟩
    refine ⟨.mk k a b c d mn mx ((List.range len).map fun i => (g i).1), some ad, cap, by simp [ncell, T.k, T.s0, T.s1, T.s2, T.s3, T.mn, T.mx, T.ps], ?_⟩
    refine .mk _ _ _ (fun i => (g i).2.1) (fun i => (g i).2.2) (by simpa [T.ps] using hlc) (by simpa [T.ps] using hlen) (fun hne => ?_) (fun i p hp => ?_)
    · have hpos : 0 < len := by
        rcases Nat.eq_zero_or_pos len with h | h
        · exfalso; apply hne; simp [T.ps, h]
        · exact h
      obtain ⟨bb, oo, spot⟩ := ad
      have hc0 := (hg 0 hpos).1 0 (by omega)
      have hspot : spot = none := by
        have := World.cell?_spot (v := .int .i64 (g 0).1.k) (by simpa [ncell] using hc0)
        simpa [Addr.add] using this
      subst hspot
      refine ⟨bb, oo, rfl, ?_, fun i p hp => ?_⟩
      · have : w.cell? ⟨bb, oo, none⟩ = some (.int .i64 (g 0).1.k) := by simpa [addr_add', ncell] using hc0
        exact World.block_lt_of_cell? _ _ this
      · obtain ⟨hi, rfl⟩ := hps i p hp
        exact .of fun j hj => by have := (hg i hi).1 j hj; simpa [addr_add'] using this
    · obtain ⟨hi, rfl⟩ := hps i p hp
      exact (hg i hi).2
theorem open_tree (K : Types P tSt tSts tNfa tSet tI tU) (L : TypesT P tN tNs tSet tI) {b0 : Nat} {v : Value} {d : DataW H} {p : List MemPlace} (hv : Value.okWide P w .any b0 tN v) (h : DataW.Trod enc P w base spare held tN v d p) (hz : ∀ n ∈ d.weights P tN, n ≤ reachBytes) :
    ∃ (t : T) (A : Option Addr) (c : Nat), v = nodeV t A c ∧ NodeAt w (fun b => b < w.heap.size) t A c := by
  obtain ⟨q0, q1, q2, q3, q4, hst, _⟩ := L.n
  obtain ⟨cs, rfl, hsz⟩ := okWide_struct hst hv
  obtain ⟨fuel, hf⟩ := h
  obtain ⟨t, A, c, hcs, hN⟩ := open_node K L fuel _ _ hf hz
  refine ⟨t, A, c, ?_, hN⟩
  obtain ⟨l⟩ := cs
  simp only [Value.cells] at hcs
  subst hcs
  rfl
end
theorem typesT_ok : TypesT Try.prog 27 25 24 3 :=
  ⟨Try.underlying25, ⟨_, _, _, _, _, Try.underlying27, ⟨rfl, rfl⟩, ⟨rfl, rfl⟩, ⟨rfl, rfl⟩, ⟨rfl, rfl⟩, rfl, rfl⟩, Try.cellsNode, Try.cellsNodes, Try.bytesNode⟩
end Go.Proofs.Ytdpmbanfaigmcaa
